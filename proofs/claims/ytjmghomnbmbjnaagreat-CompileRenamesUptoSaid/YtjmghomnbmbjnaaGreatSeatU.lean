/- A procedure that passes the check uses what it has declared: the walks and the plain part. -/
import Derived.Test.YtjmghomnbmbjnaaGreatSeatO
import Derived.Test.YtjmghomnbmbjnaaGreatSeatS
import Derived.Test.YtjmghomnbmbjnaaGreatSeatT
import Derived.Test.YtjmghomnbmbjnaaGreatSeatR
import Derived.Test.YtjmghomnbmbjnaaGreatSeatQ
import Derived.Test.YtjmghomnbmbjnaaGreatSeatE
set_option linter.unusedVariables false
set_option linter.unusedSimpArgs false
set_option linter.all false
set_option linter.deprecated false
set_option linter.all false
namespace Go.Proofs.YtjmghomnbmbjnaaGreat
open Go.Abs
attribute [local congr] ite_congr
set_option maxRecDepth 10000
def hasS (l : List Bytes) (w : Bytes) : Bool := l.any fun s => s == w
mutual
def knE (l : List Bytes) : E → Bool
  | .mk op n s args => if (decide (op = 3) && !hasS l s) = true then false else knL l args
def knL (l : List Bytes) : List E → Bool
  | [] => true
  | x :: m => knE l x && knL l m
end
theorem has_get {l : List Pm} {k : Bytes} {t : Int} (h : getP l k = some t) : hasS (l.map Pm.name) k = true := by
  induction l with
  | nil => simp [getP] at h
  | cons x l ih =>
    simp only [getP] at h
    simp only [hasS, List.map_cons, List.any_cons]
    by_cases hx : (x.name == k) = true
    · rw [hx]; rfl
    · rw [if_neg hx] at h
      rw [Bool.or_eq_true]
      exact .inr (ih h)
theorem knE_abs {l : List Bytes} {e : E} (h : absE e = true) : knE l e = true := by
  cases e with
  | mk op n s args =>
    simp only [absE, absentS, Bool.and_eq_true, decide_eq_true_eq] at h
    obtain ⟨⟨⟨h1, _⟩, _⟩, h4⟩ := h
    have : args = [] := by cases args with | nil => rfl | cons _ _ => simp at h4; omega
    subst this
    rw [knE, if_neg (by simp [h1]), knL]
theorem ofL_cons {lk : Bytes → Option Int} {op : Int} {ts : List Int} {x : E} {m : List E} (h : (ofL lk op ts (x :: m)).2 = 0) : (ofE lk x).2 = 0 ∧ (ofL lk op (ts ++ [(ofE lk x).1]) m).2 = 0 := by
  rw [ofL] at h
  by_cases h1 : (ofE lk x).2 = 0
  · rw [if_pos (by simpa using h1)] at h
    exact ⟨h1, h⟩
  · rw [if_neg (by simpa using h1)] at h
    exact absurd h h1
mutual
theorem knE_of (l : List Pm) : ∀ (e : E) (d : Int), chkE e d = 0 → (ofE (getP l) e).2 = 0 → knE (l.map Pm.name) e = true
  | .mk op n s args, d, hc, h => by
    rw [chkE] at hc
    by_cases hn : nodeS op n s args.length d = 0
    · rw [if_pos hn] at hc
      rw [ofE] at h
      rw [knE]
      by_cases h3 : op = 3
      · subst h3
        rw [if_pos (by decide)] at h
        obtain ⟨_, _, h5⟩ := varS_ok h
        have h6 := has_get h5
        rw [if_neg (by simp [h6])]
        have : args = [] := by
          have hl : ((args.length : Int)) = 0 := by
            unfold nodeS at hn
            split at hn
            · cases hn
            · split at hn
              · cases hn
              · split at hn
                · cases hn
                · rename_i h9
                  simp [ar] at h9
                  simpa using h9
          cases args with
          | nil => rfl
          | cons _ _ => simp at hl; omega
        subst this
        rw [knL]
      · rw [if_neg (by simpa using h3)] at h
        rw [if_neg (by simp [h3])]
        exact knL_of l op args _ [] hc h
    · rw [if_neg hn] at hc
      exact absurd hc hn
theorem knL_of (l : List Pm) (op : Int) : ∀ (m : List E) (d : Int) (ts : List Int), chkL m d = 0 → (ofL (getP l) op ts m).2 = 0 → knL (l.map Pm.name) m = true
  | [], d, ts, hc, h => by rw [knL]
  | x :: m, d, ts, hc, h => by
    rw [chkL] at hc
    obtain ⟨h1, h2⟩ := ofL_cons h
    by_cases hx : chkE x d = 0
    · rw [if_pos hx] at hc
      rw [knL, knE_of l x d hx h1, knL_of l op m d _ hc h2]
      rfl
    · rw [if_neg hx] at hc
      exact absurd hc hx
end
theorem stR_facts {vars : List Pm} {loops : List Bytes} {x : Stm} {d : Int} (hs : StmOk x d) (h : stR vars loops x = 0) :
    knE (vars.map Pm.name) x.a = true ∧ knE (vars.map Pm.name) x.b = true ∧ (x.op = 2 → hasS (vars.map Pm.name) x.name = true ∧ hasS loops x.name = false) ∧
      bdR (if x.op = 6 then vars ++ [⟨x.name, 1⟩] else vars) (if x.op = 6 then loops ++ [x.name] else loops) x.body = 0 ∧ bdR vars loops x.els = 0 := by
  cases x with
  | mk op name max a b body els =>
  rw [stR] at h
  simp only [Stm.op, Stm.name, Stm.body, Stm.els, Stm.a, Stm.b]
  have hop := hs.op
  have ha := hs.a
  have hna := hs.na
  have hb := hs.b
  have hnb := hs.nb
  have hbo := hs.nbody
  have hel := hs.nels
  simp only [Stm.op, Stm.name, Stm.body, Stm.els, Stm.a, Stm.b] at hop ha hna hb hnb hbo hel
  have h3 : (opsS (getP vars) (.mk op name max a b body els)).2.2 = 0 := by
    apply Classical.byContradiction
    intro h0
    have d0 : decide ((opsS (getP vars) (.mk op name max a b body els)).2.2 = 0) = false := by simpa using h0
    simp only [d0, Bool.false_and, Bool.false_eq_true, if_false] at h
    exact h0 h
  have ka : knE (vars.map Pm.name) a = true := by
    by_cases ua : uA op = true
    · have h8 : op ≠ 8 := by intro e; subst e; simp [uA] at ua
      have := h3
      unfold opsS at this
      rw [if_neg (by simpa using h8)] at this
      refine knE_of vars a 1 (ha ua) ?_
      split at this
      · rename_i hc
        simp only [Bool.and_eq_true, decide_eq_true_eq] at hc
        exact hc.1
      · exact this
    · exact knE_abs (hna (by simpa using ua))
  have kb : knE (vars.map Pm.name) b = true := by
    by_cases ub : uB op = true
    · have ho : op = 3 ∨ op = 6 := by simpa [uB] using ub
      have h8 : op ≠ 8 := by omega
      have := h3
      unfold opsS at this
      rw [if_neg (by simpa using h8)] at this
      refine knE_of vars b 1 (hb ub) ?_
      split at this
      · exact this
      · rename_i hc
        exfalso
        apply hc
        have e1 : (ofE (getP vars) a).2 = 0 := this
        simp only [Stm.a, Stm.op, Bool.and_eq_true, Bool.or_eq_true, decide_eq_true_eq]
        exact ⟨e1, ho⟩
    · exact knE_abs (hnb (by simpa using ub))
  refine ⟨ka, kb, ?_⟩
  generalize opsS (getP vars) (.mk op name max a b body els) = r at *
  obtain ⟨r1, r2, r3⟩ := r
  simp only at h3
  subst h3
  simp only [decide_true, Bool.true_and] at h
  have ho : op = 1 ∨ op = 2 ∨ op = 3 ∨ op = 4 ∨ op = 5 ∨ op = 6 ∨ op = 7 ∨ op = 8 := by omega
  by_cases h5 : op = 5
  · subst h5
    have w5 : wrgS 5 r1 r2 = false := by
      cases hw : wrgS 5 r1 r2 with
      | false => rfl
      | true => simp [hw] at h
    simp only [w5] at h
    simp at h
    by_cases hb0 : bdR vars loops body = 0
    · simp [hb0] at h ⊢
      exact h
    · simp [hb0] at h
  · have he : els = [] := hel (by simpa [uO] using h5)
    subst he
    by_cases h6 : op = 6
    · subst h6
      have w6 : wrgS 6 r1 r2 = false := by
        cases hw : wrgS 6 r1 r2 with
        | false => rfl
        | true => simp [hw] at h
      simp only [w6] at h
      simp at h
      simp [bdR_nil]
      exact h
    · have hbn : body = [] := hbo (by simp [uBo]; omega)
      subst hbn
      rw [if_neg h6, if_neg h6, bdR_nil]
      refine ⟨fun h2 => ?_, rfl, rfl⟩
      subst h2
      simp [wrgS] at h
      unfold asgS at h
      by_cases hv : (varS (getP vars name)).2 = 0
      · rw [if_pos (by simpa using hv)] at h
        obtain ⟨_, _, h9⟩ := varS_ok hv
        refine ⟨has_get h9, ?_⟩
        cases hh : (loops.any fun j => j == name) with
        | true => rw [hh] at h; simp at h
        | false => exact hh
      · rw [if_neg (by simpa using hv)] at h
        exact absurd h hv
end Go.Proofs.YtjmghomnbmbjnaaGreat
set_option linter.all false
namespace Go.Proofs.YtjmghomnbmbjnaaGreat
open Go.Abs
set_option maxRecDepth 10000
theorem slotN_mem {S : List Bytes} {w : Bytes} : 0 ≤ slotN S w ↔ w ∈ S := by
  have h := idxF_nonneg (fun s => w == s) S 0
  change decide (0 ≤ slotN S w) = _ at h
  constructor
  · intro h1
    rw [decide_eq_true h1] at h
    obtain ⟨x, hx, he⟩ := List.any_eq_true.1 h.symm
    have : w = x := by simpa using he
    rw [this]; exact hx
  · intro h1
    have : S.any (fun s => w == s) = true := List.any_eq_true.2 ⟨w, h1, by simp⟩
    rw [this] at h
    simpa using h
mutual
theorem kn_ok (S l : List Bytes) (hl : ∀ w, hasS l w = true → w ∈ S) : ∀ (e : E) (d : Int), chkE e d = 0 → knE l e = true → okM S e = true
  | .mk op n s args, d, h, hk => by
    obtain ⟨h1, h2⟩ := chkE_parts h
    rw [okM]
    rw [knE] at hk
    by_cases c1 : decide (op = 1) = true
    · rw [if_pos c1]
    rw [if_neg c1]
    by_cases c2 : decide (op = 2) = true
    · rw [if_pos c2]
    rw [if_neg c2]
    by_cases c3 : decide (op = 3) = true
    · rw [if_pos c3]
      have o3 : op = 3 := by simpa using c3
      subst o3
      have hs := node_name h1
      have hi : idxM S s = slotN S s := by unfold idxM; rw [hs, if_neg (by decide)]
      have hh : hasS l s = true := by
        cases hq : hasS l s with
        | true => rfl
        | false => rw [hq] at hk; simp at hk
      rw [hi]
      exact decide_eq_true (slotN_mem.2 (hl s hh))
    · rw [if_neg c3]
      have c3' : decide (op = 3) = false := by simpa using c3
      rw [c3', Bool.false_and, if_neg (by decide)] at hk
      exact kn_oks S l hl args _ h2 hk
theorem kn_oks (S l : List Bytes) (hl : ∀ w, hasS l w = true → w ∈ S) : ∀ (m : List E) (d : Int), chkL m d = 0 → knL l m = true → okMs S m = true
  | [], d, h, hk => by rw [okMs]
  | x :: m, d, h, hk => by
    obtain ⟨h1, h2⟩ := chkL_parts h
    rw [knL, Bool.and_eq_true] at hk
    rw [okMs, kn_ok S l hl x d h1 hk.1, kn_oks S l hl m d h2 hk.2]
    rfl
end
theorem code_same {S l : List Bytes} (hl : ∀ w, hasS l w = true → w ∈ S) {e : E} (h : chkE e 1 = 0) (hk : knE l e = true) : codeM S e = codeR S e := (ok_bnd S e 1 h).2 (kn_ok S l hl e 1 h hk)
theorem idx_same {S : List Bytes} {w : Bytes} (h : isName w = true) : idxM S w = slotN S w := by
  have : w ≠ [] := by rintro rfl; simp [Go.Proofs.YtjmghomnbmbjnaaGreat.isName] at h
  unfold idxM
  rw [if_neg (by simpa using this)]
theorem hasS_app {l : List Bytes} {x w : Bytes} : hasS (l ++ [x]) w = true → hasS l w = true ∨ w = x := by
  unfold hasS
  rw [List.any_append, Bool.or_eq_true]
  rintro (h | h)
  · exact .inl h
  · refine .inr ?_
    simp at h
    exact h.symm
mutual
theorem cd_rfS (S : List Bytes) : ∀ (x : Stm) (vars : List Pm) (loops : List Bytes) (d : Int) (k : Nat), (∀ y j, Vis.s y j ∈ visS x d → StmOk y j) → stR vars loops x = 0 →
    (∀ w, hasS (vars.map Pm.name) w = true → w ∈ S) → (∀ y j, Vis.s y j ∈ visS x d → (y.op = 1 ∨ y.op = 6) → y.name ∈ S) → cdS S x k = rfS S x k
  | .mk op name max a b body els, vars, loops, d, k, hv, h0, hw, hd => by
    have hs := hv _ d (vis_self _ d)
    obtain ⟨ka, kb, k2, kB, kE⟩ := stR_facts hs h0
    have hvb : ∀ y j, Vis.s y j ∈ visSs body (IntKind.i64.wrap (d + 1)) → StmOk y j := fun y j hy => hv y j (vis_body _ hy)
    have hve : ∀ y j, Vis.s y j ∈ visSs els (IntKind.i64.wrap (d + 1)) → StmOk y j := fun y j hy => hv y j (vis_els _ hy)
    have hdb : ∀ y j, Vis.s y j ∈ visSs body (IntKind.i64.wrap (d + 1)) → (y.op = 1 ∨ y.op = 6) → y.name ∈ S := fun y j hy => hd y j (vis_body _ hy)
    have hde : ∀ y j, Vis.s y j ∈ visSs els (IntKind.i64.wrap (d + 1)) → (y.op = 1 ∨ y.op = 6) → y.name ∈ S := fun y j hy => hd y j (vis_els _ hy)
    have hds := hd _ d (vis_self _ d)
    have hop := hs.op
    have hnm := hs.name
    have hca := hs.a
    have hcb := hs.b
    have fb := cd_rfL S body
    have fe := cd_rfL S els
    simp only [Stm.a, Stm.b, Stm.op, Stm.name, Stm.body, Stm.els] at *
    have ho : op = 1 ∨ op = 2 ∨ op = 3 ∨ op = 4 ∨ op = 5 ∨ op = 6 ∨ op = 7 ∨ op = 8 := by omega
    rw [cdS_mk, rfS_mk]
    rcases ho with rfl | rfl | rfl | rfl | rfl | rfl | rfl | rfl
    · have ea := code_same hw (hca rfl) ka
      rw [ea, idx_same (hnm rfl)]
      rfl
    · have ea := code_same hw (hca rfl) ka
      rw [ea, idx_same (hnm rfl)]
      rfl
    · have ea := code_same hw (hca rfl) ka
      have eb := code_same hw (hcb rfl) kb
      rw [ea, eb]
      rfl
    · have ea := code_same hw (hca rfl) ka
      rw [ea]
      rfl
    · have ea := code_same hw (hca rfl) ka
      have f1 : (fun j => cdL S body j) = (fun j => rfL S body j) := funext fun j => fb vars loops _ j hvb (by simpa using kB) hw hdb
      have f2 : (fun j => cdL S els j) = (fun j => rfL S els j) := funext fun j => fe vars loops _ j hve kE hw hde
      rw [ea, f1, f2]
      rfl
    · have ea := code_same hw (hca rfl) ka
      have eb := code_same hw (hcb rfl) kb
      have hn6 := hds (.inr rfl)
      have f1 : (fun j => cdL S body j) = (fun j => rfL S body j) := funext fun j => fb (vars ++ [⟨name, 1⟩]) (loops ++ [name]) _ j hvb (by simpa using kB)
        (fun w hh => by rw [List.map_append, List.map_cons, List.map_nil] at hh; rcases hasS_app hh with h | h; exact hw w h; rw [h]; exact hn6) hdb
      rw [ea, eb, f1, idx_same (hnm rfl)]
      rfl
    · have ea := code_same hw (hca rfl) ka
      rw [ea]
      rfl
    · rfl
theorem cd_rfL (S : List Bytes) : ∀ (l : List Stm) (vars : List Pm) (loops : List Bytes) (d : Int) (k : Nat), (∀ y j, Vis.s y j ∈ visSs l d → StmOk y j) → bdR vars loops l = 0 →
    (∀ w, hasS (vars.map Pm.name) w = true → w ∈ S) → (∀ y j, Vis.s y j ∈ visSs l d → (y.op = 1 ∨ y.op = 6) → y.name ∈ S) → cdL S l k = rfL S l k
  | [], vars, loops, d, k, hv, h0, hw, hd => by rw [cdL, rfL]
  | x :: l, vars, loops, d, k, hv, h0, hw, hd => by
    rw [bdR_cons] at h0
    have hx : stR vars loops x = 0 := by
      apply Classical.byContradiction
      intro hc
      rw [if_neg (by simpa using hc)] at h0
      exact hc h0
    rw [if_pos (by simpa using hx)] at h0
    rw [visSs] at hv hd
    have g1 := cd_rfS S x vars loops d k (fun y j hy => hv y j (List.mem_append_left _ hy)) hx hw (fun y j hy => hd y j (List.mem_append_left _ hy))
    rw [cdL_cons, rfL_cons, g1]
    have hnx := hd x d (List.mem_append_left _ (vis_self x d))
    have g2 := cd_rfL S l _ loops d (k + (rfS S x k).length) (fun y j hy => hv y j (List.mem_append_right _ hy)) h0 (by
      intro w hh
      by_cases h1 : decide (x.op = 1) = true
      · rw [if_pos h1, List.map_append, List.map_cons, List.map_nil] at hh
        rcases hasS_app hh with h | h
        · exact hw w h
        · rw [h]; exact hnx (.inl (by simpa using h1))
      · rw [if_neg h1] at hh
        exact hw w hh) (fun y j hy => hd y j (List.mem_append_right _ hy))
    rw [g2]
end
mutual
theorem lnS_vis : ∀ (x : Stm) (d : Int), lnS x ≤ 16 * (visS x d).length
  | .mk op name max a b body els, d => by
    have h1 := lnL_vis body (IntKind.i64.wrap (d + 1))
    have h2 := lnL_vis els (IntKind.i64.wrap (d + 1))
    have hE : ∀ e : E, (visE e false).length ≤ 1 + (if absE e = true then [] else visE e true).length := by
      intro e
      obtain ⟨o, n, s, args⟩ := e
      by_cases ha : absE (.mk o n s args) = true
      · have : args = [] := by
          simp only [absE, absentS, Bool.and_eq_true, decide_eq_true_eq] at ha
          cases args with
          | nil => rfl
          | cons _ _ => simp at ha; omega
        subst this
        simp [visE, visEs]
      · rw [if_neg ha, visE, visE]; simp
    have ha := hE a
    have hb := hE b
    rw [lnS, visS]
    simp only [List.length_cons, List.length_append]
    omega
theorem lnL_vis : ∀ (l : List Stm) (d : Int), lnL l ≤ 16 * (visSs l d).length
  | [], d => by simp [lnL]
  | x :: l, d => by
    have h1 := lnS_vis x d
    have h2 := lnL_vis l d
    rw [lnL, visSs, List.length_append]
    omega
end
end Go.Proofs.YtjmghomnbmbjnaaGreat
set_option linter.all false
namespace Go.Proofs.YtjmghomnbmbjnaaGreat
open Go.Abs
attribute [local congr] ite_congr
set_option maxRecDepth 10000
def codeAv (T : List Int) (n : Int) (I : List In) : AV := .agg [.d (.slice (T.map iRow)), .d (.int .i64 n), .d (.slice (I.map In.row))]
theorem grI_eq (A : AHeap) (T : List Int) : grI A T = if T = [] then (.nilS, A) else (.own A.bufs.length T.length, ⟨A.objs, A.bufs ++ [⟨3, 1, T.map iRow, 0⟩]⟩) := by
  unfold grI agrow
  by_cases h : T = []
  · subst h; simp
  · rw [if_neg (by simpa using h), if_neg h]; simp
theorem pr_fin {f : FuncId} (ho : C.own f = false) (A : AHeap) (S : List Bytes) (I : List In) (hI : I ≠ []) (T : List Int) (n : Int) (k : Dat) :
    afinR C f A (grI (emH A S I) T).2 (some (.tuple [.agg [(grI (emH A S I) T).1, .d (.int .i64 n), (grJ A I).1], .d k])) = some (.tuple [codeAv T n I, .d k], A) := by
  unfold codeAv
  simp only [afinR, Option.map_some, afinish, ho, Bool.false_eq_true, if_false]
  rw [grI_eq, grJ_fst, if_neg hI, emH_ne A S hI]
  by_cases h1 : T = []
  · subst h1
    simp only [if_true, acleanR, acleanVs, acleanV, acleans, aclean, arows, List.map_nil]
    simp only [List.getElem?_append_right (Nat.le_refl _), Nat.sub_self, List.getElem?_cons_zero, List.length_map, if_true]
    unfold acut
    simp [AHeap.freeze, AV.noptr, AV.noptr2, AV.noptr1]
    rw [List.take_modify_front]
  · simp only [if_neg h1, acleanR, acleanVs, acleanV, acleans, aclean, arows]
    have g1 : (A.bufs ++ [⟨46, 5, I.map In.row, 0⟩] ++ [⟨3, 1, T.map iRow, 0⟩] : List ABuf)[(A.bufs ++ [⟨46, 5, I.map In.row, 0⟩] : List ABuf).length]? = some ⟨3, 1, T.map iRow, 0⟩ := by
      rw [List.getElem?_append_right (Nat.le_refl _)]; simp
    simp only [g1, List.length_map, if_true]
    have g2 : ((A.bufs ++ [⟨46, 5, I.map In.row, 0⟩] ++ [⟨3, 1, T.map iRow, T.length⟩] : List ABuf))[A.bufs.length]? = some ⟨46, 5, I.map In.row, 0⟩ := by simp
    have m1 : (A.bufs ++ [⟨46, 5, I.map In.row, 0⟩] ++ [⟨3, 1, T.map iRow, 0⟩] : List ABuf).modify (A.bufs ++ [⟨46, 5, I.map In.row, 0⟩] : List ABuf).length (fun b => { b with frozen := b.rows.length }) =
        A.bufs ++ [⟨46, 5, I.map In.row, 0⟩] ++ [⟨3, 1, T.map iRow, T.length⟩] := by
      rw [modify_last]; simp
    simp only [AHeap.freeze, m1, g2, List.length_map, if_true]
    unfold acut
    simp [AHeap.freeze, AV.noptr, AV.noptr2, AV.noptr1]
    rw [List.take_modify_front]
theorem pr_fin0 {f : FuncId} (ho : C.own f = false) (A : AHeap) (S : List Bytes) (I : List In) (n : Int) (k : Dat) :
    afinR C f A (emH A S I) (some (.tuple [.agg [.nilS, .d (.int .i64 n), .nilS], .d k])) = some (.tuple [codeAv [] n [], .d k], A) := by
  unfold codeAv
  simp only [afinR, Option.map_some, afinish, ho, Bool.false_eq_true, if_false, acleanR, acleanVs, acleanV, acleans, aclean, List.map_nil]
  unfold emH grJ agrow acut
  by_cases h1 : I.map In.row = []
  · simp [h1, AV.noptr, AV.noptr2, AV.noptr1]
  · simp [h1, AV.noptr, AV.noptr2, AV.noptr1]
end Go.Proofs.YtjmghomnbmbjnaaGreat
