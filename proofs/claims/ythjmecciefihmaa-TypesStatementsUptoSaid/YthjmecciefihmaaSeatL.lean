/- The types of a checked procedure's statements: the plain part. -/
import Derived.Test.YthjmecciefihmaaSeatK
set_option linter.unusedVariables false
set_option linter.unusedSimpArgs false
set_option linter.all false
set_option linter.deprecated false
set_option linter.all false
namespace Go.Proofs.Ythjmecciefihmaa
open Go.Abs
def Sub (vars T : List Pm) : Prop := ∀ k t, getP vars k = some t → getP T k = some t
theorem Sub.trans {a b c : List Pm} (h1 : Sub a b) (h2 : Sub b c) : Sub a c := fun k t h => h2 k t (h1 k t h)
theorem Sub.app {a b : List Pm} (m : List Pm) (h : Sub a b) : Sub a (b ++ m) := fun k t hk => getP_append (h k t hk)
theorem Sub.snoc {a b : List Pm} (h : Sub a b) {n : Bytes} {t : Int} (hn : n ∉ b.map Pm.name) : Sub (a ++ [⟨n, t⟩]) (b ++ [⟨n, t⟩]) := by
  intro k u hk
  rw [getP_snoc] at hk ⊢
  cases ha : getP a k with
  | some v =>
    rw [ha] at hk
    rw [h k v ha]
    exact hk
  | none =>
    rw [ha] at hk
    simp only at hk
    by_cases he : (n == k) = true
    · have : n = k := by simpa using he
      subst this
      rw [getP_none hn]
      exact hk
    · rw [if_neg he] at hk
      cases hk
theorem rvF_ext : ∀ (l : List Vis) (T : List Pm), ∃ M, l.foldl rvF T = T ++ M
  | [], T => ⟨[], by simp⟩
  | v :: l, T => by
    obtain ⟨M, hM⟩ := rvF_ext l (rvF T v)
    have h1 : ∃ N, rvF T v = T ++ N := by
      cases v with
      | e x r => exact ⟨[], by simp [rvF]⟩
      | s x d =>
        simp only [rvF]
        split
        · exact ⟨_, rfl⟩
        · split
          · exact ⟨_, rfl⟩
          · exact ⟨[], by simp⟩
    obtain ⟨N, hN⟩ := h1
    exact ⟨N ++ M, by rw [List.foldl_cons, hM, hN, List.append_assoc]⟩
theorem Sub.fold {a T : List Pm} (l : List Vis) (h : Sub a T) : Sub a (l.foldl rvF T) := by
  obtain ⟨M, hM⟩ := rvF_ext l T
  rw [hM]
  exact h.app M
theorem Sub.refl (a : List Pm) : Sub a a := fun _ _ h => h
/-- the types of a statement's expressions -/
structure StmTy (T : List Pm) (x : Stm) : Prop where
  set : x.op = 1 ∨ x.op = 2 → ∃ t, 1 ≤ t ∧ t ≤ 3 ∧ getP T x.name = some t ∧ ofE (getP T) x.a = (t, 0)
  put : x.op = 3 → ofE (getP T) x.a = (2, 0) ∧ (ofE (getP T) x.b).2 = 0 ∧ ((ofE (getP T) x.b).1 = 1 ∨ (ofE (getP T) x.b).1 = 2)
  del : x.op = 4 → ofE (getP T) x.a = (2, 0)
  br : x.op = 5 → ofE (getP T) x.a = (3, 0)
  loop : x.op = 6 → ofE (getP T) x.a = (1, 0) ∧ ofE (getP T) x.b = (1, 0) ∧ getP T x.name = some 1
  emit : x.op = 7 → (ofE (getP T) x.a).2 = 0 ∧ ((ofE (getP T) x.a).1 = 1 ∨ (ofE (getP T) x.a).1 = 2)
theorem opsS_zero {lk : Bytes → Option Int} {x : Stm} (h : (opsS lk x).2.2 = 0) (h8 : x.op ≠ 8) : (ofE lk x.a).2 = 0 ∧ (opsS lk x).1 = (ofE lk x.a).1 ∧ (x.op = 3 ∨ x.op = 6 → (ofE lk x.b).2 = 0 ∧ (opsS lk x).2.1 = (ofE lk x.b).1) := by
  unfold opsS at h ⊢
  rw [if_neg (by simpa using h8)] at h ⊢
  by_cases hc : (decide ((ofE lk x.a).2 = 0) && (decide (x.op = 3) || decide (x.op = 6))) = true
  · rw [if_pos hc] at h ⊢
    simp only [Bool.and_eq_true, decide_eq_true_eq] at hc
    exact ⟨hc.1, rfl, fun _ => ⟨h, rfl⟩⟩
  · rw [if_neg hc] at h ⊢
    refine ⟨h, rfl, fun ho => ?_⟩
    exfalso
    apply hc
    have h' : (ofE lk x.a).2 = 0 := h
    rcases ho with ho | ho <;> simp [h', ho]
theorem pair_eq {p : Int × Int} {a b : Int} (h1 : p.1 = a) (h2 : p.2 = b) : p = (a, b) := by rw [← h1, ← h2]
mutual
theorem tyS : ∀ (x : Stm) (d : Int) (vars : List Pm) (loops : List Bytes) (T F : List Pm), (∀ y k, Vis.s y k ∈ visS x d → StmOk y k) → Sub vars T → (namesV (visS x d)).Nodup → (∀ n ∈ namesV (visS x d), n ∉ T.map Pm.name) → stR vars loops x = 0 →
    Sub ((visS x d).foldl rvF T) F → (∀ y k, Vis.s y k ∈ visS x d → StmTy F y) ∧ Sub (if decide (x.op = 1) = true then vars ++ [⟨x.name, (opsS (getP vars) x).1⟩] else vars) ((visS x d).foldl rvF T)
  | .mk op name max a b body els, d, vars, loops, T, F, hv, L, hnd, hdis, h, HF => by
    have hs := hv _ d (vis_self _ d)
    have vb : ∀ y k, Vis.s y k ∈ visSs body (IntKind.i64.wrap (d + 1)) → StmOk y k := fun y k hy => hv y k (vis_body _ hy)
    have ve : ∀ y k, Vis.s y k ∈ visSs els (IntKind.i64.wrap (d + 1)) → StmOk y k := fun y k hy => hv y k (vis_els _ hy)
    have IB := fun vars loops T F L h1 h2 => tyB body (IntKind.i64.wrap (d + 1)) vars loops T F vb L h1 h2
    have IE := fun vars loops T F L h1 h2 => tyB els (IntKind.i64.wrap (d + 1)) vars loops T F ve L h1 h2
    rw [names_visS] at hnd hdis
    rw [fold_visS] at HF ⊢
    have hlet := fun h1 h => rvF_let (vars := vars) (T := T) hs h1 L h
    have hTF : Sub (rvF T (.s (.mk op name max a b body els) d)) F := (Sub.fold _ (Sub.fold _ (Sub.refl _))).trans HF
    have hTF0 : Sub T F := by
      refine Sub.trans ?_ hTF
      obtain ⟨M, hM⟩ := rvF_ext [.s (.mk op name max a b body els) d] T
      simp only [List.foldl_cons, List.foldl_nil] at hM
      rw [hM]
      exact (Sub.refl T).app M
    have hVF : Sub vars F := L.trans hTF0
    have hself : ∀ (P : Prop), (∀ y k, Vis.s y k ∈ visSs body (IntKind.i64.wrap (d + 1)) → StmTy F y) → (∀ y k, Vis.s y k ∈ visSs els (IntKind.i64.wrap (d + 1)) → StmTy F y) → StmTy F (.mk op name max a b body els) → ∀ y k, Vis.s y k ∈ visS (.mk op name max a b body els) d → StmTy F y := by
      intro _ hB hE h0 y k hy
      simp only [visS, List.mem_cons, List.mem_append] at hy
      rcases hy with hy | hy | hy | hy | hy
      · simp only [Vis.s.injEq] at hy
        obtain ⟨rfl, _⟩ := hy
        exact h0
      · obtain ⟨z, r, hz⟩ := visA_all a _ hy
        cases hz
      · obtain ⟨z, r, hz⟩ := visA_all b _ hy
        cases hz
      · exact hB y k hy
      · exact hE y k hy
    have hop := hs.op
    have nb := hs.nbody
    have ne := hs.nels
    rw [stR] at h
    have hz := fun h => opsS_zero (lk := getP vars) (x := .mk op name max a b body els) h
    simp only [Stm.op, Stm.name, Stm.body, Stm.els, Stm.a, Stm.b] at hop nb ne hlet hz ⊢
    have h3 : (opsS (getP vars) (.mk op name max a b body els)).2.2 = 0 := by
      apply Classical.byContradiction
      intro h0
      have d0 : decide ((opsS (getP vars) (.mk op name max a b body els)).2.2 = 0) = false := by simpa using h0
      simp only [d0, Bool.false_and, Bool.false_eq_true, if_false] at h
      exact h0 h
    have ho : op = 1 ∨ op = 2 ∨ op = 3 ∨ op = 4 ∨ op = 5 ∨ op = 6 ∨ op = 7 ∨ op = 8 := by omega
    have mono := fun e h => ofE_mono (lk := getP vars) (lk' := getP F) hVF e h
    generalize opsS (getP vars) (.mk op name max a b body els) = r at *
    obtain ⟨r1, r2, r3⟩ := r
    simp only at h3 hz
    subst h3
    simp only [decide_true, Bool.true_and] at h
    have zb : body = [] → (∀ y k, Vis.s y k ∈ visSs body (IntKind.i64.wrap (d + 1)) → StmTy F y) := by rintro rfl y k hy; simp [visSs] at hy
    have ze : els = [] → (∀ y k, Vis.s y k ∈ visSs els (IntKind.i64.wrap (d + 1)) → StmTy F y) := by rintro rfl y k hy; simp [visSs] at hy
    by_cases h8 : op = 8
    · subst h8
      have hb : body = [] := nb rfl
      have he : els = [] := ne rfl
      refine ⟨hself True (zb hb) (ze he) ⟨by simp [Stm.op], by simp [Stm.op], by simp [Stm.op], by simp [Stm.op], by simp [Stm.op], by simp [Stm.op]⟩, ?_⟩
      subst hb; subst he
      exact L
    obtain ⟨a0, a1, ab⟩ := hz rfl h8
    subst a1
    have ea := mono a a0
    have tya := ofE_ok _ a a0
    by_cases h1 : op = 1
    · subst h1
      have hb : body = [] := nb rfl
      have he : els = [] := ne rfl
      obtain ⟨g1, g2⟩ := hlet rfl rfl
      have hn : name ∉ T.map Pm.name := hdis name (by simp)
      rw [g1] at hTF ⊢
      have hN : getP F name = some (ofE (getP vars) a).1 := by
        apply hTF
        rw [getP_snoc, getP_none hn]
        simp
      refine ⟨hself True (zb hb) (ze he) ⟨fun _ => ⟨_, tya.1, tya.2, hN, by simp only [Stm.a]; rw [ea]; exact pair_eq rfl a0⟩, by simp [Stm.op], by simp [Stm.op], by simp [Stm.op], by simp [Stm.op], by simp [Stm.op]⟩, ?_⟩
      subst hb; subst he
      exact Sub.snoc L hn
    by_cases h2 : op = 2
    · subst h2
      have hb : body = [] := nb rfl
      have he : els = [] := ne rfl
      have hT : rvF T (.s (.mk 2 name max a b body els) d) = T := by rfl
      rw [hT]
      have hN : getP F name = some (ofE (getP vars) a).1 := by
        simp [wrgS] at h
        unfold asgS at h
        by_cases hv : (varS (getP vars name)).2 = 0
        · rw [if_pos (by simpa using hv)] at h
          obtain ⟨_, _, h9⟩ := varS_ok hv
          split at h
          · cases h
          · split at h
            · rename_i _ hq
              simp only [decide_eq_true_eq] at hq
              apply hVF
              rw [h9, ← hq]
            · cases h
        · rw [if_neg (by simpa using hv)] at h
          exact absurd h hv
      refine ⟨hself True (zb hb) (ze he) ⟨fun _ => ⟨_, tya.1, tya.2, hN, by simp only [Stm.a]; rw [ea]; exact pair_eq rfl a0⟩, by simp [Stm.op], by simp [Stm.op], by simp [Stm.op], by simp [Stm.op], by simp [Stm.op]⟩, ?_⟩
      subst hb; subst he
      exact L
    have n1 : decide (op = 1) = false := by simpa using h1
    have n2 : decide (op = 2) = false := by simpa using h2
    simp only [n1, n2, Bool.false_eq_true, if_false, decide_true, Bool.true_and] at h ⊢
    have wr : wrgS op (ofE (getP vars) a).1 r2 = false := by
      cases hw : wrgS op (ofE (getP vars) a).1 r2 with
      | false => rfl
      | true => simp [hw] at h
    simp only [wr, Bool.false_eq_true, if_false, decide_true, Bool.true_and] at h
    by_cases h6 : op = 6
    · subst h6
      have he : els = [] := ne rfl
      obtain ⟨b0, rfl⟩ := ab (.inr rfl)
      have eb := mono b b0
      have hT : rvF T (.s (.mk 6 name max a b body els) d) = T ++ [⟨name, 1⟩] := by rfl
      rw [hT] at hTF HF ⊢
      have hn : name ∉ T.map Pm.name := hdis name (by simp)
      subst he
      have hn6 : (name :: namesV (visSs body (IntKind.i64.wrap (d + 1)))).Nodup := by simpa [visSs, namesV] using hnd
      rw [List.nodup_cons] at hn6
      have hN : getP F name = some 1 := by
        apply hTF
        rw [getP_snoc, getP_none hn]
        simp
      simp at h
      simp [wrgS] at wr
      have KB := IB (vars ++ [⟨name, 1⟩]) (loops ++ [name]) (T ++ [⟨name, 1⟩]) F (Sub.snoc L hn) hn6.2 (by
        intro n hm
        rw [List.map_append, List.mem_append]
        rintro (h | h)
        · exact hdis n (by simp [hm]) h
        · simp at h; subst h; exact hn6.1 hm) h (by simpa [visSs] using HF)
      refine ⟨hself True KB.1 (ze rfl) ⟨by simp [Stm.op], by simp [Stm.op], by simp [Stm.op], by simp [Stm.op], fun _ => ⟨by simp only [Stm.a]; rw [ea]; exact pair_eq wr.1 a0, by simp only [Stm.b]; rw [eb]; exact pair_eq wr.2 b0, hN⟩, by simp [Stm.op]⟩, ?_⟩
      exact Sub.fold _ (Sub.fold _ (L.app _))
    by_cases h5 : op = 5
    · subst h5
      have hT : rvF T (.s (.mk 5 name max a b body els) d) = T := by rfl
      rw [hT] at HF ⊢
      simp at h
      simp [wrgS] at wr
      have hn5 : (namesV (visSs body (IntKind.i64.wrap (d + 1))) ++ namesV (visSs els (IntKind.i64.wrap (d + 1)))).Nodup := by simpa using hnd
      rw [List.nodup_append] at hn5
      have hb0 : bdR vars loops body = 0 := by
        apply Classical.byContradiction
        intro hc
        rw [if_neg hc] at h
        exact hc h
      rw [if_pos hb0] at h
      have KB := IB vars loops T F L hn5.1 (fun n hn => hdis n (by simp [hn])) hb0 ((Sub.fold _ (Sub.refl _)).trans HF)
      have KE := IE vars loops ((visSs body (IntKind.i64.wrap (d + 1))).foldl rvF T) F (Sub.fold _ L) hn5.2.1 (by
        intro n hn
        rw [rvF_names, List.mem_append]
        rintro (hm | hm)
        · exact hdis n (by simp [hn]) hm
        · exact hn5.2.2 n hm n hn rfl) h HF
      refine ⟨hself True KB.1 KE.1 ⟨by simp [Stm.op], by simp [Stm.op], by simp [Stm.op], fun _ => by simp only [Stm.a]; rw [ea]; exact pair_eq wr a0, by simp [Stm.op], by simp [Stm.op]⟩, ?_⟩
      exact Sub.fold _ (Sub.fold _ L)
    have hb : body = [] := nb (by simp [uBo]; omega)
    have he : els = [] := ne (by simpa [uO] using h5)
    have hT : rvF T (.s (.mk op name max a b body els) d) = T := by simp [rvF, h1, h6]
    rw [hT]
    refine ⟨hself True (zb hb) (ze he) ?_, ?_⟩
    · refine ⟨fun h => by simp only [Stm.op] at h; omega, fun h => ?_, fun h => ?_, fun h => by simp only [Stm.op] at h; omega, fun h => by simp only [Stm.op] at h; omega, fun h => ?_⟩ <;> simp only [Stm.op] at h <;> subst h <;> simp [wrgS] at wr
      · obtain ⟨b0, rfl⟩ := ab (.inl rfl)
        have eb := mono b b0
        have tyb := ofE_ok _ b b0
        simp only [Stm.a, Stm.b]
        rw [ea, eb]
        exact ⟨pair_eq wr.1 a0, b0, by omega⟩
      · simp only [Stm.a]
        rw [ea]
        exact pair_eq wr a0
      · simp only [Stm.a]
        rw [ea]
        exact ⟨a0, by omega⟩
    · subst hb; subst he
      exact L
theorem tyB : ∀ (l : List Stm) (d : Int) (vars : List Pm) (loops : List Bytes) (T F : List Pm), (∀ y k, Vis.s y k ∈ visSs l d → StmOk y k) → Sub vars T → (namesV (visSs l d)).Nodup → (∀ n ∈ namesV (visSs l d), n ∉ T.map Pm.name) → bdR vars loops l = 0 →
    Sub ((visSs l d).foldl rvF T) F → (∀ y k, Vis.s y k ∈ visSs l d → StmTy F y) ∧ Sub (vsAfter vars l) ((visSs l d).foldl rvF T)
  | [], d, vars, loops, T, F, hv, L, hnd, hdis, h, HF => ⟨fun y k hy => by simp [visSs] at hy, L⟩
  | x :: l, d, vars, loops, T, F, hv, L, hnd, hdis, h, HF => by
    simp only [visSs, namesV_append] at hnd hdis
    simp only [visSs, List.foldl_append] at HF ⊢
    rw [List.nodup_append] at hnd
    rw [bdR_cons] at h
    have hx : stR vars loops x = 0 := by
      apply Classical.byContradiction
      intro hc
      rw [if_neg (by simpa using hc)] at h
      exact hc h
    rw [if_pos (by simpa using hx)] at h
    have H := tyS x d vars loops T F (fun y k hy => hv y k (by simp only [visSs, List.mem_append]; exact .inl hy)) L hnd.1 (fun n hn => hdis n (List.mem_append_left _ hn)) hx ((Sub.fold _ (Sub.refl _)).trans HF)
    have K := tyB l d _ loops ((visS x d).foldl rvF T) F (fun y k hy => hv y k (by simp only [visSs, List.mem_append]; exact .inr hy)) H.2 hnd.2.1 (fun n hn => by
      rw [rvF_names, List.mem_append]
      rintro (hm | hm)
      · exact hdis n (List.mem_append_right _ hn) hm
      · exact hnd.2.2 n hm n hn rfl) h HF
    refine ⟨fun y k hy => ?_, K.2⟩
    rcases List.mem_append.1 hy with hy | hy
    · exact H.1 y k hy
    · exact K.1 y k hy
end
theorem chk_ty {p : Pr} (hc : chkS p = 0) : ∀ y k, Vis.s y k ∈ visSs p.body 1 → StmTy (allV p) y := by
  obtain ⟨V, hbl, hd, h0, hk⟩ := chk_zero hc
  have hbr : bdR p.params [] p.body = 0 := by rw [← (ck_link V hd).1]; exact hk
  have hn := ((dupR_false _ _).1 hd).1
  unfold namesS paramNames at hn
  rw [V.vis] at hn
  rw [List.nodup_append] at hn
  exact (tyB p.body 1 p.params [] p.params (allV p) V.stmOk3 (Sub.refl _) hn.2.1 (fun n hn' hm => hn.2.2 n hm n hn' rfl) hbr (Sub.refl _)).1
end Go.Proofs.Ythjmecciefihmaa
set_option linter.all false
namespace Go.Proofs.Ythjmecciefihmaa
open Go.Abs
attribute [local congr] ite_congr
set_option maxRecDepth 10000
theorem nameE (s : Bytes) (A : AHeap) : acl C 29 [.d (.str s)] A = some (E.av (.mk 3 0 s []), A) := by
  rw [k_call (c := C) (f := 29) rfl Try.func29 rfl (ok 29 (by kernel_rfl)) rfl Try.ntmps29 Try.results29 (by simp)]
  simp (maxSteps := 1000000) only [go_sem, acondK_bool, acB_merge, Nat.reduceLT, Nat.reduceLeDiff, Nat.reduceEqDiff, Nat.reduceAdd, Nat.reduceSub, Nat.reduceMul, Nat.reduceBEq, Nat.reduceBNe, Nat.reduceBneDiff, Nat.reduceBeqDiff, Int.reduceToNat, Int.reduceLE, Int.reduceLT, Int.reduceEq, Int.reduceNe, Int.reduceNeg, Int.reduceAdd, Int.reduceSub, ↓reduceIte, reduceCtorEq, List.getElem?_toArray, List.getElem?_cons_zero, List.getElem?_cons_succ, List.length_cons, List.length_nil, List.take_succ_cons, List.take_zero, List.drop_succ_cons, List.drop_zero, List.drop_nil, List.take_nil, List.nil_append, List.cons_append, List.append_nil, List.contains_cons, List.contains_nil, Bool.or_false, Bool.false_or, Bool.or_true, Bool.true_or, Bool.and_true, Bool.true_and, Bool.and_false, Bool.false_and, Bool.not_true, Bool.not_false, Bool.not_not, Option.isSome_some, Option.isSome_none, List.map_cons, List.map_nil, ite_not, not_true_eq_false, not_false_eq_true, Nat.zero_add, Nat.add_zero]
  rfl
def typS (e : E) (T : List Pm) (s t : Int) : Bool := decide ((ofS e T).2 = 0) && (decide ((ofS e T).1 = s) || decide ((ofS e T).1 = t))
theorem typedL (e : E) (hok : e.Ok) (T : List Pm) (hl : T.length ≤ 4194303) (s t : Int) (A : AHeap) : acl C 30 [E.av e, .d (.slice (T.map Pm.row)), .d (.int .i64 s), .d (.int .i64 t)] A = some (.d (.bool (typS e T s t)), A) := by
  have e1 := typesOf e hok T hl
  rw [k_call (c := C) (f := 30) rfl Try.func30 rfl (ok 30 (by kernel_rfl)) rfl Try.ntmps30 Try.results30 (by simp)]
  unfold typS
  generalize ofS e T = r at *
  obtain ⟨r1, r2⟩ := r
  simp only at e1 ⊢
  cases h1 : decide (r2 = 0) with
  | false => simp (maxSteps := 1000000) only [go_sem, acondK_bool, acB_merge, Nat.reduceLT, Nat.reduceLeDiff, Nat.reduceEqDiff, Nat.reduceAdd, Nat.reduceSub, Nat.reduceMul, Nat.reduceBEq, Nat.reduceBNe, Nat.reduceBneDiff, Nat.reduceBeqDiff, Int.reduceToNat, Int.reduceLE, Int.reduceLT, Int.reduceEq, Int.reduceNe, Int.reduceNeg, Int.reduceAdd, Int.reduceSub, ↓reduceIte, reduceCtorEq, List.getElem?_toArray, List.getElem?_cons_zero, List.getElem?_cons_succ, List.length_cons, List.length_nil, List.take_succ_cons, List.take_zero, List.drop_succ_cons, List.drop_zero, List.drop_nil, List.take_nil, List.nil_append, List.cons_append, List.append_nil, List.contains_cons, List.contains_nil, Bool.or_false, Bool.false_or, Bool.or_true, Bool.true_or, Bool.and_true, Bool.true_and, Bool.and_false, Bool.false_and, Bool.not_true, Bool.not_false, Bool.not_not, Option.isSome_some, Option.isSome_none, List.map_cons, List.map_nil, ite_not, not_true_eq_false, not_false_eq_true, Nat.zero_add, Nat.add_zero, e1, h1]
  | true => cases h2 : decide (r1 = s) <;> simp (maxSteps := 1000000) only [go_sem, acondK_bool, acB_merge, Nat.reduceLT, Nat.reduceLeDiff, Nat.reduceEqDiff, Nat.reduceAdd, Nat.reduceSub, Nat.reduceMul, Nat.reduceBEq, Nat.reduceBNe, Nat.reduceBneDiff, Nat.reduceBeqDiff, Int.reduceToNat, Int.reduceLE, Int.reduceLT, Int.reduceEq, Int.reduceNe, Int.reduceNeg, Int.reduceAdd, Int.reduceSub, ↓reduceIte, reduceCtorEq, List.getElem?_toArray, List.getElem?_cons_zero, List.getElem?_cons_succ, List.length_cons, List.length_nil, List.take_succ_cons, List.take_zero, List.drop_succ_cons, List.drop_zero, List.drop_nil, List.take_nil, List.nil_append, List.cons_append, List.append_nil, List.contains_cons, List.contains_nil, Bool.or_false, Bool.false_or, Bool.or_true, Bool.true_or, Bool.and_true, Bool.true_and, Bool.and_false, Bool.false_and, Bool.not_true, Bool.not_false, Bool.not_not, Option.isSome_some, Option.isSome_none, List.map_cons, List.map_nil, ite_not, not_true_eq_false, not_false_eq_true, Nat.zero_add, Nat.add_zero, e1, h1, h2]
theorem chk_name {s : Bytes} (h : isName s = true) : chkE (.mk 3 0 s []) 1 = 0 := by
  rw [chkE]
  have : nodeS 3 0 s ([] : List E).length 1 = 0 := by simp [nodeS, ar, h]
  rw [if_pos this, chkL]
theorem ofS_chk {e : E} {T : List Pm} (h : chkE e 1 = 0) : ofS e T = ofE (getP T) e := by
  unfold ofS
  rw [if_pos (by simpa using h)]
theorem ofS_name {s : Bytes} {T : List Pm} {t : Int} (h : isName s = true) (hg : getP T s = some t) (h1 : 1 ≤ t) (h3 : t ≤ 3) : ofS (.mk 3 0 s []) T = (t, 0) := by
  rw [ofS_chk (chk_name h), ofE, if_pos (by decide), hg]
  unfold varS
  simp only
  rw [if_neg (by simp; omega)]
theorem typS_eq {e : E} {T : List Pm} {t s u : Int} (h : ofS e T = (t, 0)) (h2 : t = s ∨ t = u) : typS e T s u = true := by
  unfold typS
  rw [h]
  rcases h2 with rfl | rfl <;> simp
theorem nameOk (s : Bytes) (h : s.length ≤ 1099511627776) : (E.mk 3 0 s []).Ok := by
  refine E.Ok.mk _ _ _ _ ?_ ?_ h ?_ ?_ ?_ <;> simp [i64]
set_option maxHeartbeats 2000000 in
theorem lawTypesStatements (p : Pr) (hp : p.Ok) : acl C 10 [Pr.av p] A00 = some (.d (.bool true), A00) := by
  rw [k_call (c := C) (f := 10) rfl Try.func10 rfl (ok 10 (by kernel_rfl)) rfl Try.ntmps10 Try.results10 (by simp)]
  cases hs : smallS p 1600 with
  | false => simp (maxSteps := 1000000) only [go_sem, acondK_bool, acB_merge, Nat.reduceLT, Nat.reduceLeDiff, Nat.reduceEqDiff, Nat.reduceAdd, Nat.reduceSub, Nat.reduceMul, Nat.reduceBEq, Nat.reduceBNe, Nat.reduceBneDiff, Nat.reduceBeqDiff, Int.reduceToNat, Int.reduceLE, Int.reduceLT, Int.reduceEq, Int.reduceNe, Int.reduceNeg, Int.reduceAdd, Int.reduceSub, ↓reduceIte, reduceCtorEq, List.getElem?_toArray, List.getElem?_cons_zero, List.getElem?_cons_succ, List.length_cons, List.length_nil, List.take_succ_cons, List.take_zero, List.drop_succ_cons, List.drop_zero, List.drop_nil, List.take_nil, List.nil_append, List.cons_append, List.append_nil, List.contains_cons, List.contains_nil, Bool.or_false, Bool.false_or, Bool.or_true, Bool.true_or, Bool.and_true, Bool.true_and, Bool.and_false, Bool.false_and, Bool.not_true, Bool.not_false, Bool.not_not, Option.isSome_some, Option.isSome_none, List.map_cons, List.map_nil, ite_not, not_true_eq_false, not_false_eq_true, Nat.zero_add, Nat.add_zero, small p hp, works, hs]
  | true =>
  have h40 := small40 hs
  have c1 := checkOf p hp h40
  cases hc : decide (chkS p = 0) with
  | false => simp (maxSteps := 1000000) only [go_sem, acondK_bool, acB_merge, Nat.reduceLT, Nat.reduceLeDiff, Nat.reduceEqDiff, Nat.reduceAdd, Nat.reduceSub, Nat.reduceMul, Nat.reduceBEq, Nat.reduceBNe, Nat.reduceBneDiff, Nat.reduceBeqDiff, Int.reduceToNat, Int.reduceLE, Int.reduceLT, Int.reduceEq, Int.reduceNe, Int.reduceNeg, Int.reduceAdd, Int.reduceSub, ↓reduceIte, reduceCtorEq, List.getElem?_toArray, List.getElem?_cons_zero, List.getElem?_cons_succ, List.length_cons, List.length_nil, List.take_succ_cons, List.take_zero, List.drop_succ_cons, List.drop_zero, List.drop_nil, List.take_nil, List.nil_append, List.cons_append, List.append_nil, List.contains_cons, List.contains_nil, Bool.or_false, Bool.false_or, Bool.or_true, Bool.true_or, Bool.and_true, Bool.true_and, Bool.and_false, Bool.false_and, Bool.not_true, Bool.not_false, Bool.not_not, Option.isSome_some, Option.isSome_none, List.map_cons, List.map_nil, ite_not, not_true_eq_false, not_false_eq_true, Nat.zero_add, Nat.add_zero, small p hp, works, hs, c1, hc]
  | true =>
  have hc' : chkS p = 0 := by simpa using hc
  obtain ⟨V, hbl, hd, h0, hk⟩ := chk_zero hc'
  have hty := chk_ty hc'
  have v1 := varsOf p hp h40
  have hvs : varsS p = allV p := by unfold varsS; rw [if_pos hc]
  rw [hvs] at v1
  have hal := allV_len p V h40
  have hvl := visP_len p
  have hvo := visP_okP p hp
  have hso : ∀ x d, Vis.s x d ∈ visP p → StmOk x d := fun x d hm => by rw [V.vis] at hm; exact V.stmOk3 x d hm
  rw [← V.vis] at hty
  simp (maxSteps := 1000000) only [go_sem, acondK_bool, acB_merge, Nat.reduceLT, Nat.reduceLeDiff, Nat.reduceEqDiff, Nat.reduceAdd, Nat.reduceSub, Nat.reduceMul, Nat.reduceBEq, Nat.reduceBNe, Nat.reduceBneDiff, Nat.reduceBeqDiff, Int.reduceToNat, Int.reduceLE, Int.reduceLT, Int.reduceEq, Int.reduceNe, Int.reduceNeg, Int.reduceAdd, Int.reduceSub, ↓reduceIte, reduceCtorEq, List.getElem?_toArray, List.getElem?_cons_zero, List.getElem?_cons_succ, List.length_cons, List.length_nil, List.take_succ_cons, List.take_zero, List.drop_succ_cons, List.drop_zero, List.drop_nil, List.take_nil, List.nil_append, List.cons_append, List.append_nil, List.contains_cons, List.contains_nil, Bool.or_false, Bool.false_or, Bool.or_true, Bool.true_or, Bool.and_true, Bool.true_and, Bool.and_false, Bool.false_and, Bool.not_true, Bool.not_false, Bool.not_not, Option.isSome_some, Option.isSome_none, List.map_cons, List.map_nil, ite_not, not_true_eq_false, not_false_eq_true, Nat.zero_add, Nat.add_zero, small p hp, hs, c1, hc, v1, walkR p hp]
  generalize visP p = vs at *
  generalize allV p = T at *
  refine loop_any (fun pre => [(4, .v (.d (.slice (vs.map Vis.row)))), (3, .v (.d (.slice (T.map Pm.row)))), (5, .v (.d (.int .i64 (pre.length : Nat))))])
    (fun _ => A00) (fun _ _ => some (.d (.bool true), A00)) vs rfl rfl rfl ?_
  intro pre suf hl ih
  have hb2 : pre.length < 9223372036854775807 := by rw [hl] at hvl; simp at hvl; omega
  cases suf with
  | nil =>
    have e4 : decide ((pre.length : Int) < (vs.length : Int)) = false := by rw [hl]; simp
    simp (maxSteps := 1000000) only [go_sem, acondK_bool, acB_merge, Nat.reduceLT, Nat.reduceLeDiff, Nat.reduceEqDiff, Nat.reduceAdd, Nat.reduceSub, Nat.reduceMul, Nat.reduceBEq, Nat.reduceBNe, Nat.reduceBneDiff, Nat.reduceBeqDiff, Int.reduceToNat, Int.reduceLE, Int.reduceLT, Int.reduceEq, Int.reduceNe, Int.reduceNeg, Int.reduceAdd, Int.reduceSub, ↓reduceIte, reduceCtorEq, List.getElem?_toArray, List.getElem?_cons_zero, List.getElem?_cons_succ, List.length_cons, List.length_nil, List.take_succ_cons, List.take_zero, List.drop_succ_cons, List.drop_zero, List.drop_nil, List.take_nil, List.nil_append, List.cons_append, List.append_nil, List.contains_cons, List.contains_nil, Bool.or_false, Bool.false_or, Bool.or_true, Bool.true_or, Bool.and_true, Bool.true_and, Bool.and_false, Bool.false_and, Bool.not_true, Bool.not_false, Bool.not_not, Option.isSome_some, Option.isSome_none, List.map_cons, List.map_nil, ite_not, not_true_eq_false, not_false_eq_true, Nat.zero_add, Nat.add_zero, e4, works]
  | cons v suf =>
    have e2 := ih v suf rfl
    rw [List.length_append, List.length_cons, List.length_nil] at e2
    have e3 : (vs.map Vis.row)[pre.length]? = some (Vis.row v) := by rw [hl]; exact map_mid
    have e4 : decide ((pre.length : Int) < (vs.length : Int)) = true := by rw [hl]; simp; omega
    have hm : v ∈ vs := by rw [hl]; simp
    match v with
    | .e y r =>
      simp only [Vis.row] at e3
      simp (maxSteps := 1000000) only [go_sem, acondK_bool, acB_merge, Nat.reduceLT, Nat.reduceLeDiff, Nat.reduceEqDiff, Nat.reduceAdd, Nat.reduceSub, Nat.reduceMul, Nat.reduceBEq, Nat.reduceBNe, Nat.reduceBneDiff, Nat.reduceBeqDiff, Int.reduceToNat, Int.reduceLE, Int.reduceLT, Int.reduceEq, Int.reduceNe, Int.reduceNeg, Int.reduceAdd, Int.reduceSub, ↓reduceIte, reduceCtorEq, List.getElem?_toArray, List.getElem?_cons_zero, List.getElem?_cons_succ, List.length_cons, List.length_nil, List.take_succ_cons, List.take_zero, List.drop_succ_cons, List.drop_zero, List.drop_nil, List.take_nil, List.nil_append, List.cons_append, List.append_nil, List.contains_cons, List.contains_nil, Bool.or_false, Bool.false_or, Bool.or_true, Bool.true_or, Bool.and_true, Bool.true_and, Bool.and_false, Bool.false_and, Bool.not_true, Bool.not_false, Bool.not_not, Option.isSome_some, Option.isSome_none, List.map_cons, List.map_nil, ite_not, not_true_eq_false, not_false_eq_true, Nat.zero_add, Nat.add_zero, e3, e4, e2, wrap_nat hb2]
    | .s x d =>
      simp only [Vis.row] at e3
      have hx := hvo x d hm
      have ho := hso x d hm
      have ht := hty x d hm
      have xa := Stm.Ok.a hx
      have xb := Stm.Ok.b hx
      have xn := Stm.Ok.name hx
      have ta := fun s u => typedL x.a xa T (by omega) s u
      have tb := fun s u => typedL x.b xb T (by omega) s u
      have tn := fun s u => typedL (.mk 3 0 x.name []) (nameOk x.name xn) T (by omega) s u
      have on := fun A => typesOf (.mk 3 0 x.name []) (nameOk x.name xn) T (by omega) A
      have n1 := fun A => nameE x.name A
      have hop := ho.op
      have hna := ho.name
      have hca := ho.a
      have hcb := ho.b
      cases x with
      | mk op name max a b body els =>
      simp only [Stm.op, Stm.name, Stm.a, Stm.b, Stm.body, Stm.els] at *
      have hop8 : op = 1 ∨ op = 2 ∨ op = 3 ∨ op = 4 ∨ op = 5 ∨ op = 6 ∨ op = 7 ∨ op = 8 := by omega
      rcases hop8 with rfl | rfl | rfl | rfl | rfl | rfl | rfl | rfl
      · obtain ⟨t, k1, k2, k3, k4⟩ := ht.set (.inl rfl)
        simp only [Stm.name, Stm.a] at k3 k4
        have o1 := on
        rw [ofS_name (hna rfl) k3 k1 k2] at o1
        have t1 := ta t t
        rw [typS_eq (by rw [ofS_chk (hca rfl)]; exact k4) (.inl rfl)] at t1
        simp (maxSteps := 1000000) only [go_sem, acondK_bool, acB_merge, Nat.reduceLT, Nat.reduceLeDiff, Nat.reduceEqDiff, Nat.reduceAdd, Nat.reduceSub, Nat.reduceMul, Nat.reduceBEq, Nat.reduceBNe, Nat.reduceBneDiff, Nat.reduceBeqDiff, Int.reduceToNat, Int.reduceLE, Int.reduceLT, Int.reduceEq, Int.reduceNe, Int.reduceNeg, Int.reduceAdd, Int.reduceSub, ↓reduceIte, reduceCtorEq, List.getElem?_toArray, List.getElem?_cons_zero, List.getElem?_cons_succ, List.length_cons, List.length_nil, List.take_succ_cons, List.take_zero, List.drop_succ_cons, List.drop_zero, List.drop_nil, List.take_nil, List.nil_append, List.cons_append, List.append_nil, List.contains_cons, List.contains_nil, Bool.or_false, Bool.false_or, Bool.or_true, Bool.true_or, Bool.and_true, Bool.true_and, Bool.and_false, Bool.false_and, Bool.not_true, Bool.not_false, Bool.not_not, Option.isSome_some, Option.isSome_none, List.map_cons, List.map_nil, ite_not, not_true_eq_false, not_false_eq_true, Nat.zero_add, Nat.add_zero, e3, e4, e2, n1, o1, t1, wrap_nat hb2]
      · obtain ⟨t, k1, k2, k3, k4⟩ := ht.set (.inr rfl)
        simp only [Stm.name, Stm.a] at k3 k4
        have o1 := on
        rw [ofS_name (hna rfl) k3 k1 k2] at o1
        have t1 := ta t t
        rw [typS_eq (by rw [ofS_chk (hca rfl)]; exact k4) (.inl rfl)] at t1
        simp (maxSteps := 1000000) only [go_sem, acondK_bool, acB_merge, Nat.reduceLT, Nat.reduceLeDiff, Nat.reduceEqDiff, Nat.reduceAdd, Nat.reduceSub, Nat.reduceMul, Nat.reduceBEq, Nat.reduceBNe, Nat.reduceBneDiff, Nat.reduceBeqDiff, Int.reduceToNat, Int.reduceLE, Int.reduceLT, Int.reduceEq, Int.reduceNe, Int.reduceNeg, Int.reduceAdd, Int.reduceSub, ↓reduceIte, reduceCtorEq, List.getElem?_toArray, List.getElem?_cons_zero, List.getElem?_cons_succ, List.length_cons, List.length_nil, List.take_succ_cons, List.take_zero, List.drop_succ_cons, List.drop_zero, List.drop_nil, List.take_nil, List.nil_append, List.cons_append, List.append_nil, List.contains_cons, List.contains_nil, Bool.or_false, Bool.false_or, Bool.or_true, Bool.true_or, Bool.and_true, Bool.true_and, Bool.and_false, Bool.false_and, Bool.not_true, Bool.not_false, Bool.not_not, Option.isSome_some, Option.isSome_none, List.map_cons, List.map_nil, ite_not, not_true_eq_false, not_false_eq_true, Nat.zero_add, Nat.add_zero, e3, e4, e2, n1, o1, t1, wrap_nat hb2]
      · obtain ⟨k1, k2, k3⟩ := ht.put rfl
        simp only [Stm.b, Stm.a] at k1 k2 k3
        have t1 := ta 2 2
        rw [typS_eq (by rw [ofS_chk (hca rfl)]; exact k1) (.inl rfl)] at t1
        have t2 := tb 1 2
        rw [typS_eq (by rw [ofS_chk (hcb rfl)]; exact pair_eq rfl k2) k3] at t2
        simp (maxSteps := 1000000) only [go_sem, acondK_bool, acB_merge, Nat.reduceLT, Nat.reduceLeDiff, Nat.reduceEqDiff, Nat.reduceAdd, Nat.reduceSub, Nat.reduceMul, Nat.reduceBEq, Nat.reduceBNe, Nat.reduceBneDiff, Nat.reduceBeqDiff, Int.reduceToNat, Int.reduceLE, Int.reduceLT, Int.reduceEq, Int.reduceNe, Int.reduceNeg, Int.reduceAdd, Int.reduceSub, ↓reduceIte, reduceCtorEq, List.getElem?_toArray, List.getElem?_cons_zero, List.getElem?_cons_succ, List.length_cons, List.length_nil, List.take_succ_cons, List.take_zero, List.drop_succ_cons, List.drop_zero, List.drop_nil, List.take_nil, List.nil_append, List.cons_append, List.append_nil, List.contains_cons, List.contains_nil, Bool.or_false, Bool.false_or, Bool.or_true, Bool.true_or, Bool.and_true, Bool.true_and, Bool.and_false, Bool.false_and, Bool.not_true, Bool.not_false, Bool.not_not, Option.isSome_some, Option.isSome_none, List.map_cons, List.map_nil, ite_not, not_true_eq_false, not_false_eq_true, Nat.zero_add, Nat.add_zero, e3, e4, e2, t1, t2, wrap_nat hb2]
      · have k1 := ht.del rfl
        simp only [Stm.a] at k1
        have t1 := ta 2 2
        rw [typS_eq (by rw [ofS_chk (hca rfl)]; exact k1) (.inl rfl)] at t1
        simp (maxSteps := 1000000) only [go_sem, acondK_bool, acB_merge, Nat.reduceLT, Nat.reduceLeDiff, Nat.reduceEqDiff, Nat.reduceAdd, Nat.reduceSub, Nat.reduceMul, Nat.reduceBEq, Nat.reduceBNe, Nat.reduceBneDiff, Nat.reduceBeqDiff, Int.reduceToNat, Int.reduceLE, Int.reduceLT, Int.reduceEq, Int.reduceNe, Int.reduceNeg, Int.reduceAdd, Int.reduceSub, ↓reduceIte, reduceCtorEq, List.getElem?_toArray, List.getElem?_cons_zero, List.getElem?_cons_succ, List.length_cons, List.length_nil, List.take_succ_cons, List.take_zero, List.drop_succ_cons, List.drop_zero, List.drop_nil, List.take_nil, List.nil_append, List.cons_append, List.append_nil, List.contains_cons, List.contains_nil, Bool.or_false, Bool.false_or, Bool.or_true, Bool.true_or, Bool.and_true, Bool.true_and, Bool.and_false, Bool.false_and, Bool.not_true, Bool.not_false, Bool.not_not, Option.isSome_some, Option.isSome_none, List.map_cons, List.map_nil, ite_not, not_true_eq_false, not_false_eq_true, Nat.zero_add, Nat.add_zero, e3, e4, e2, t1, wrap_nat hb2]
      · have k1 := ht.br rfl
        simp only [Stm.a] at k1
        have t1 := ta 3 3
        rw [typS_eq (by rw [ofS_chk (hca rfl)]; exact k1) (.inl rfl)] at t1
        simp (maxSteps := 1000000) only [go_sem, acondK_bool, acB_merge, Nat.reduceLT, Nat.reduceLeDiff, Nat.reduceEqDiff, Nat.reduceAdd, Nat.reduceSub, Nat.reduceMul, Nat.reduceBEq, Nat.reduceBNe, Nat.reduceBneDiff, Nat.reduceBeqDiff, Int.reduceToNat, Int.reduceLE, Int.reduceLT, Int.reduceEq, Int.reduceNe, Int.reduceNeg, Int.reduceAdd, Int.reduceSub, ↓reduceIte, reduceCtorEq, List.getElem?_toArray, List.getElem?_cons_zero, List.getElem?_cons_succ, List.length_cons, List.length_nil, List.take_succ_cons, List.take_zero, List.drop_succ_cons, List.drop_zero, List.drop_nil, List.take_nil, List.nil_append, List.cons_append, List.append_nil, List.contains_cons, List.contains_nil, Bool.or_false, Bool.false_or, Bool.or_true, Bool.true_or, Bool.and_true, Bool.true_and, Bool.and_false, Bool.false_and, Bool.not_true, Bool.not_false, Bool.not_not, Option.isSome_some, Option.isSome_none, List.map_cons, List.map_nil, ite_not, not_true_eq_false, not_false_eq_true, Nat.zero_add, Nat.add_zero, e3, e4, e2, t1, wrap_nat hb2]
      · obtain ⟨k1, k2, k3⟩ := ht.loop rfl
        simp only [Stm.b, Stm.a, Stm.name] at k1 k2 k3
        have t1 := ta 1 1
        rw [typS_eq (by rw [ofS_chk (hca rfl)]; exact k1) (.inl rfl)] at t1
        have t2 := tb 1 1
        rw [typS_eq (by rw [ofS_chk (hcb rfl)]; exact k2) (.inl rfl)] at t2
        have t3 := tn 1 1
        rw [typS_eq (ofS_name (hna rfl) k3 (by omega) (by omega)) (.inl rfl)] at t3
        simp (maxSteps := 1000000) only [go_sem, acondK_bool, acB_merge, Nat.reduceLT, Nat.reduceLeDiff, Nat.reduceEqDiff, Nat.reduceAdd, Nat.reduceSub, Nat.reduceMul, Nat.reduceBEq, Nat.reduceBNe, Nat.reduceBneDiff, Nat.reduceBeqDiff, Int.reduceToNat, Int.reduceLE, Int.reduceLT, Int.reduceEq, Int.reduceNe, Int.reduceNeg, Int.reduceAdd, Int.reduceSub, ↓reduceIte, reduceCtorEq, List.getElem?_toArray, List.getElem?_cons_zero, List.getElem?_cons_succ, List.length_cons, List.length_nil, List.take_succ_cons, List.take_zero, List.drop_succ_cons, List.drop_zero, List.drop_nil, List.take_nil, List.nil_append, List.cons_append, List.append_nil, List.contains_cons, List.contains_nil, Bool.or_false, Bool.false_or, Bool.or_true, Bool.true_or, Bool.and_true, Bool.true_and, Bool.and_false, Bool.false_and, Bool.not_true, Bool.not_false, Bool.not_not, Option.isSome_some, Option.isSome_none, List.map_cons, List.map_nil, ite_not, not_true_eq_false, not_false_eq_true, Nat.zero_add, Nat.add_zero, e3, e4, e2, t1, t2, n1, t3, wrap_nat hb2]
      · obtain ⟨k1, k2⟩ := ht.emit rfl
        simp only [Stm.a] at k1 k2
        have t1 := ta 1 2
        rw [typS_eq (by rw [ofS_chk (hca rfl)]; exact pair_eq rfl k1) k2] at t1
        simp (maxSteps := 1000000) only [go_sem, acondK_bool, acB_merge, Nat.reduceLT, Nat.reduceLeDiff, Nat.reduceEqDiff, Nat.reduceAdd, Nat.reduceSub, Nat.reduceMul, Nat.reduceBEq, Nat.reduceBNe, Nat.reduceBneDiff, Nat.reduceBeqDiff, Int.reduceToNat, Int.reduceLE, Int.reduceLT, Int.reduceEq, Int.reduceNe, Int.reduceNeg, Int.reduceAdd, Int.reduceSub, ↓reduceIte, reduceCtorEq, List.getElem?_toArray, List.getElem?_cons_zero, List.getElem?_cons_succ, List.length_cons, List.length_nil, List.take_succ_cons, List.take_zero, List.drop_succ_cons, List.drop_zero, List.drop_nil, List.take_nil, List.nil_append, List.cons_append, List.append_nil, List.contains_cons, List.contains_nil, Bool.or_false, Bool.false_or, Bool.or_true, Bool.true_or, Bool.and_true, Bool.true_and, Bool.and_false, Bool.false_and, Bool.not_true, Bool.not_false, Bool.not_not, Option.isSome_some, Option.isSome_none, List.map_cons, List.map_nil, ite_not, not_true_eq_false, not_false_eq_true, Nat.zero_add, Nat.add_zero, e3, e4, e2, t1, wrap_nat hb2]
      · simp (maxSteps := 1000000) only [go_sem, acondK_bool, acB_merge, Nat.reduceLT, Nat.reduceLeDiff, Nat.reduceEqDiff, Nat.reduceAdd, Nat.reduceSub, Nat.reduceMul, Nat.reduceBEq, Nat.reduceBNe, Nat.reduceBneDiff, Nat.reduceBeqDiff, Int.reduceToNat, Int.reduceLE, Int.reduceLT, Int.reduceEq, Int.reduceNe, Int.reduceNeg, Int.reduceAdd, Int.reduceSub, ↓reduceIte, reduceCtorEq, List.getElem?_toArray, List.getElem?_cons_zero, List.getElem?_cons_succ, List.length_cons, List.length_nil, List.take_succ_cons, List.take_zero, List.drop_succ_cons, List.drop_zero, List.drop_nil, List.take_nil, List.nil_append, List.cons_append, List.append_nil, List.contains_cons, List.contains_nil, Bool.or_false, Bool.false_or, Bool.or_true, Bool.true_or, Bool.and_true, Bool.true_and, Bool.and_false, Bool.false_and, Bool.not_true, Bool.not_false, Bool.not_not, Option.isSome_some, Option.isSome_none, List.map_cons, List.map_nil, ite_not, not_true_eq_false, not_false_eq_true, Nat.zero_add, Nat.add_zero, e3, e4, e2, wrap_nat hb2]
end Go.Proofs.Ythjmecciefihmaa
