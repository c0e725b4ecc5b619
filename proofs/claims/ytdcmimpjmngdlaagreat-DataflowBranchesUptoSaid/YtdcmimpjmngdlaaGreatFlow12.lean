/- Keys and branches over the visits; parameters that are not assigned: the plain part. -/
import Derived.Test.YtdcmimpjmngdlaaGreatSeatS
set_option linter.unusedVariables false
set_option linter.unusedSimpArgs false
set_option linter.all false
set_option linter.deprecated false
set_option linter.all false
namespace Go.Proofs.YtdcmimpjmngdlaaGreat
open Go.Abs
def headT (v : List Bytes) : List E → Bool
  | [] => false
  | y :: _ => tnE v y
/-- is the key of this visit tainted? -/
def kvV (v : List Bytes) : Vis → Bool
  | .s x _ => (decide (x.op = 3) || decide (x.op = 4)) && tnE v x.a
  | .e x _ => acs x.op && headT v x.args
/-- is the branch of this visit tainted? -/
def bvV (v : List Bytes) : Vis → Bool
  | .s x _ => ((decide (x.op = 5) || decide (x.op = 6)) && tnE v x.a) || (decide (x.op = 6) && tnE v x.b)
  | .e _ _ => false
theorem node_len {op n : Int} {s : Bytes} {len : Nat} {d : Int} (h : nodeS op n s len d = 0) : (len : Int) = ar op := by
  unfold nodeS at h
  split at h
  · cases h
  · split at h
    · cases h
    · split at h
      · cases h
      · rename_i h9
        simp only [Bool.or_eq_true, Bool.not_eq_true', not_or, Bool.not_eq_false] at h9
        simpa using h9.2
theorem acs_ar {op : Int} (h : acs op = true) : ar op = 1 := by
  unfold acs at h
  simp only [Bool.or_eq_true, decide_eq_true_eq] at h
  rcases h with (h | h) | h <;> subst h <;> decide
theorem chk_node {op n : Int} {s : Bytes} {args : List E} {d : Int} (h : chkE (.mk op n s args) d = 0) : nodeS op n s args.length d = 0 ∧ chkL args (IntKind.i64.wrap (d + 1)) = 0 := by
  rw [chkE] at h
  by_cases hn : nodeS op n s args.length d = 0
  · rw [if_pos hn] at h; exact ⟨hn, h⟩
  · rw [if_neg hn] at h; exact absurd h hn
theorem acs_one {op n : Int} {s : Bytes} {args : List E} {d : Int} (h : chkE (.mk op n s args) d = 0) (ha : acs op = true) : ∃ y, args = [y] := by
  have h1 := node_len (chk_node h).1
  rw [acs_ar ha] at h1
  match args, h1 with
  | [y], _ => exact ⟨y, rfl⟩
  | [], h1 => simp at h1
  | _ :: _ :: _, h1 => simp at h1; omega
theorem knE_args {N : List Bytes} {op n : Int} {s : Bytes} {args : List E} (h : knE N (.mk op n s args) = true) : knL N args = true := by
  rw [knE] at h
  split at h
  · cases h
  · exact h
theorem chkL_cons14 {x : E} {l : List E} {d : Int} (h : chkL (x :: l) d = 0) : chkE x d = 0 ∧ chkL l d = 0 := by
  rw [chkL] at h
  by_cases hx : chkE x d = 0
  · rw [if_pos hx] at h; exact ⟨hx, h⟩
  · rw [if_neg hx] at h; exact absurd h hx
section
variable {N c v : List Bytes}
mutual
theorem opr_vis (h : ∀ s ∈ N, hv v s = !SS.has c s) : ∀ (e : E) (d : Int) (r : Bool), knE N e = true → chkE e d = 0 → (visE e r).any (kvV v) = oprE c e ∧ (visE e r).any (bvV v) = false
  | .mk op n s args, d, r, hk, hc => by
    obtain ⟨h1, h2⟩ := opr_viss h args _ (knE_args hk) (chk_node hc).2
    rw [visE, List.any_cons, List.any_cons, h1, h2, oprE]
    refine ⟨?_, rfl⟩
    show ((acs op && headT v args) || oprEs c args) = ((acs op && tntEs c args) || oprEs c args)
    cases ha : acs op with
    | false => rfl
    | true =>
      obtain ⟨y, hy⟩ := acs_one hc ha
      subst hy
      have hky := knE_args hk
      rw [knL, Bool.and_eq_true] at hky
      rw [tntEs, tntEs, Bool.or_false, ← tnt_sim h y hky.1]
      rfl
theorem opr_viss (h : ∀ s ∈ N, hv v s = !SS.has c s) : ∀ (l : List E) (d : Int), knL N l = true → chkL l d = 0 → (visEs l).any (kvV v) = oprEs c l ∧ (visEs l).any (bvV v) = false
  | [], d, hk, hc => ⟨rfl, rfl⟩
  | x :: l, d, hk, hc => by
    rw [knL, Bool.and_eq_true] at hk
    obtain ⟨c1, c2⟩ := chkL_cons14 hc
    obtain ⟨h1, h2⟩ := opr_vis h x d false hk.1 c1
    obtain ⟨h3, h4⟩ := opr_viss h l d hk.2 c2
    rw [visEs, List.any_append, List.any_append, h1, h2, h3, h4, oprEs]
    exact ⟨rfl, rfl⟩
end
theorem opr_abs {e : E} (h : absE e = true) : oprE c e = false := by
  cases e with
  | mk op n s args =>
    simp only [absE, absentS, Bool.and_eq_true, decide_eq_true_eq] at h
    obtain ⟨⟨⟨h1, _⟩, _⟩, h4⟩ := h
    have : args = [] := by cases args with | nil => rfl | cons _ _ => simp at h4; omega
    subst this
    change op = 0 at h1
    subst h1
    rfl
theorem opr_opt (h : ∀ s ∈ N, hv v s = !SS.has c s) (e : E) (hk : knE N e = true) (hc : absE e = false → chkE e 1 = 0) :
    (if absE e = true then [] else visE e true).any (kvV v) = oprE c e ∧ (if absE e = true then [] else visE e true).any (bvV v) = false := by
  by_cases ha : absE e = true
  · rw [if_pos ha, opr_abs ha]
    exact ⟨rfl, rfl⟩
  · rw [if_neg ha]
    exact opr_vis h e 1 true hk (hc (by simpa using ha))
theorem used_a {x : Stm} {d : Int} (h : StmOk x d) (ha : absE x.a = false) : chkE x.a 1 = 0 := by
  by_cases hu : uA x.op = true
  · exact h.a hu
  · have := h.na (by simpa using hu); rw [ha] at this; cases this
theorem used_b {x : Stm} {d : Int} (h : StmOk x d) (hb : absE x.b = false) : chkE x.b 1 = 0 := by
  by_cases hu : uB x.op = true
  · exact h.b hu
  · have := h.nb (by simpa using hu); rw [hb] at this; cases this
theorem bool_brn (p q r s t w : Bool) : ((((p || q) && r) || (q && s)) || (t || w)) = ((p && r) || ((q && (r || s)) || (t || w))) := by
  cases p <;> cases q <;> cases r <;> cases s <;> rfl
mutual
theorem key_vis (h : ∀ s ∈ N, hv v s = !SS.has c s) : ∀ (x : Stm) (d : Int), (∀ y k, Vis.s y k ∈ visS x d → KnS N y k) → (visS x d).any (kvV v) = keyS c x ∧ (visS x d).any (bvV v) = brnS c x
  | .mk op name max a b body els, d, hk => by
    have k0 := hk _ d (vis_self _ d)
    have vb : ∀ y k, Vis.s y k ∈ visSs body (IntKind.i64.wrap (d + 1)) → KnS N y k := fun y k hy => hk y k (vis_body _ hy)
    have ve : ∀ y k, Vis.s y k ∈ visSs els (IntKind.i64.wrap (d + 1)) → KnS N y k := fun y k hy => hk y k (vis_els _ hy)
    obtain ⟨a1, a2⟩ := opr_opt h a k0.a (fun ha => used_a k0.ok ha)
    obtain ⟨b1, b2⟩ := opr_opt h b k0.b (fun hb => used_b k0.ok hb)
    obtain ⟨c1, c2⟩ := key_visL h body _ vb
    obtain ⟨d1, d2⟩ := key_visL h els _ ve
    rw [visS]
    simp only [List.any_cons, List.any_append]
    rw [a1, a2, b1, b2, c1, c2, d1, d2, keyS, brnS]
    have e1 : kvV v (.s (.mk op name max a b body els) d) = ((decide (op = 3) || decide (op = 4)) && tnE v a) := rfl
    have e2 : bvV v (.s (.mk op name max a b body els) d) = (((decide (op = 5) || decide (op = 6)) && tnE v a) || (decide (op = 6) && tnE v b)) := rfl
    rw [e1, e2, tnt_sim h a k0.a, tnt_sim h b k0.b, Bool.false_or, Bool.false_or]
    exact ⟨rfl, bool_brn _ _ _ _ _ _⟩
theorem key_visL (h : ∀ s ∈ N, hv v s = !SS.has c s) : ∀ (l : List Stm) (d : Int), (∀ y k, Vis.s y k ∈ visSs l d → KnS N y k) → (visSs l d).any (kvV v) = keyL c l ∧ (visSs l d).any (bvV v) = brnL c l
  | [], d, hk => ⟨rfl, rfl⟩
  | x :: l, d, hk => by
    have h1 : ∀ y k, Vis.s y k ∈ visS x d → KnS N y k := fun y k hy => hk y k (by rw [visSs]; exact List.mem_append_left _ hy)
    have h2 : ∀ y k, Vis.s y k ∈ visSs l d → KnS N y k := fun y k hy => hk y k (by rw [visSs]; exact List.mem_append_right _ hy)
    obtain ⟨a1, a2⟩ := key_vis h x d h1
    obtain ⟨b1, b2⟩ := key_visL h l d h2
    rw [visSs, List.any_append, List.any_append, a1, a2, b1, b2, keyL, brnL]
    exact ⟨rfl, rfl⟩
end
end
theorem key_visP {p : Pr} (hc : chkS p = 0) {v : List Bytes} (h : ∀ s ∈ namesS p, hv v s = !SS.has (clnS p) s) : (visP p).any (kvV v) = keyL (clnS p) p.body ∧ (visP p).any (bvV v) = brnL (clnS p) p.body := by
  rw [(chk_small hc).2.vis]
  exact key_visL h p.body 1 (kn_all hc)
/-! the checks of what is visited -/
def VChk : Vis → Prop
  | .s x d => StmOk x d
  | .e x _ => ∃ d, chkE x d = 0
mutual
theorem vchkE : ∀ (e : E) (d : Int) (r : Bool), chkE e d = 0 → ∀ v ∈ visE e r, VChk v
  | .mk op n s args, d, r, hc, v, hm => by
    rw [visE] at hm
    rcases List.mem_cons.1 hm with rfl | hm
    · exact ⟨d, hc⟩
    · exact vchkEs args _ (chk_node hc).2 v hm
theorem vchkEs : ∀ (l : List E) (d : Int), chkL l d = 0 → ∀ v ∈ visEs l, VChk v
  | [], d, hc, v, hm => by rw [visEs] at hm; cases hm
  | x :: l, d, hc, v, hm => by
    obtain ⟨c1, c2⟩ := chkL_cons14 hc
    rw [visEs] at hm
    rcases List.mem_append.1 hm with hm | hm
    · exact vchkE x d false c1 v hm
    · exact vchkEs l d c2 v hm
end
theorem vchk_opt (e : E) (hc : absE e = false → chkE e 1 = 0) : ∀ v ∈ (if absE e = true then [] else visE e true), VChk v := by
  intro v hm
  by_cases ha : absE e = true
  · rw [if_pos ha] at hm; cases hm
  · rw [if_neg ha] at hm
    exact vchkE e 1 true (hc (by simpa using ha)) v hm
mutual
theorem vchkS : ∀ (x : Stm) (d : Int), (∀ y k, Vis.s y k ∈ visS x d → StmOk y k) → ∀ v ∈ visS x d, VChk v
  | .mk op name max a b body els, d, hk, v, hm => by
    have k0 := hk _ d (vis_self _ d)
    rw [visS] at hm
    rcases List.mem_cons.1 hm with rfl | hm
    · exact k0
    · rcases List.mem_append.1 hm with hm | hm
      · exact vchk_opt a (fun h => used_a k0 h) v hm
      · rcases List.mem_append.1 hm with hm | hm
        · exact vchk_opt b (fun h => used_b k0 h) v hm
        · rcases List.mem_append.1 hm with hm | hm
          · exact vchkL body _ (fun y k hy => hk y k (vis_body _ hy)) v hm
          · exact vchkL els _ (fun y k hy => hk y k (vis_els _ hy)) v hm
theorem vchkL : ∀ (l : List Stm) (d : Int), (∀ y k, Vis.s y k ∈ visSs l d → StmOk y k) → ∀ v ∈ visSs l d, VChk v
  | [], d, hk, v, hm => by rw [visSs] at hm; cases hm
  | x :: l, d, hk, v, hm => by
    rw [visSs] at hm
    rcases List.mem_append.1 hm with hm | hm
    · exact vchkS x d (fun y k hy => hk y k (by rw [visSs]; exact List.mem_append_left _ hy)) v hm
    · exact vchkL l d (fun y k hy => hk y k (by rw [visSs]; exact List.mem_append_right _ hy)) v hm
end
theorem vchkP {p : Pr} (hc : chkS p = 0) : ∀ v ∈ visP p, VChk v := by
  have V := (chk_small hc).2
  rw [V.vis]
  exact vchkL p.body 1 V.stmOk3
/-! keys that are constants, or names that are not tainted -/
def okK (v : List Bytes) (k : E) : Bool := decide (k.op = 2) || (decide (k.op = 3) && !hv v k.s)
def headK (v : List Bytes) : List E → Bool
  | [] => true
  | y :: _ => okK v y
def plV (v : List Bytes) : Vis → Bool
  | .s x _ => if (decide (x.op = 3) || decide (x.op = 4)) = true then okK v x.a else true
  | .e x _ => if acs x.op = true then headK v x.args else true
theorem okK_clean {v : List Bytes} {k : E} {d : Int} (hc : chkE k d = 0) (h : okK v k = true) : tnE v k = false := by
  cases k with
  | mk op n s args =>
    have hl := node_len (chk_node hc).1
    simp only [okK, E.op, E.s, Bool.or_eq_true, Bool.and_eq_true, decide_eq_true_eq, Bool.not_eq_true'] at h
    rcases h with h | ⟨h, h2⟩
    · subst h
      have : args = [] := by
        cases args with
        | nil => rfl
        | cons _ _ => simp [ar] at hl; omega
      subst this
      rfl
    · subst h
      have : args = [] := by
        cases args with
        | nil => rfl
        | cons _ _ => simp [ar] at hl; omega
      subst this
      rw [tnE, h2]
      rfl
theorem plain_clean {p : Pr} (hc : chkS p = 0) {v : List Bytes} (h : (visP p).all (plV v) = true) : (visP p).any (kvV v) = false := by
  rw [List.any_eq_false]
  intro w hw
  have h1 := List.all_eq_true.1 h w hw
  have h2 := vchkP hc w hw
  cases w with
  | s x d =>
    have h2' : StmOk x d := h2
    simp only [plV] at h1
    simp only [kvV]
    by_cases ho : (decide (x.op = 3) || decide (x.op = 4)) = true
    · rw [if_pos ho] at h1
      have hu : uA x.op = true := by
        simp only [Bool.or_eq_true, decide_eq_true_eq] at ho
        rcases ho with ho | ho <;> rw [ho] <;> decide
      rw [okK_clean (h2'.a hu) h1]
      simp
    · rw [show (decide (x.op = 3) || decide (x.op = 4)) = false by simpa using ho]
      simp
  | e x r =>
    obtain ⟨d, h2'⟩ := h2
    simp only [plV] at h1
    simp only [kvV]
    by_cases ho : acs x.op = true
    · rw [if_pos ho] at h1
      cases x with
      | mk op n s args =>
        obtain ⟨y, hy⟩ := acs_one h2' ho
        subst hy
        have hy := (chkL_cons14 (chk_node h2').2).1
        have h3 : okK v y = true := h1
        have h4 : headT v (E.mk op n s [y]).args = false := okK_clean hy h3
        rw [h4]
        simp
    · rw [show acs x.op = false by simpa using ho]
      simp
/-! names that no statement sets stay as they are -/
theorem del_keep {k s : Bytes} (hne : k ≠ s) : ∀ c : List Bytes, SS.has (SS.del c k) s = SS.has c s
  | [] => rfl
  | j :: l => by
    have ih := del_keep hne l
    simp only [SS.del]
    by_cases hk : (k == j) = true
    · rw [if_pos hk]
      have e2 : SS.has (j :: l) s = ((s == j) || SS.has l s) := rfl
      have : k = j := by simpa using hk
      rw [e2, show (s == j) = false by simpa [← this] using fun e => hne e.symm, Bool.false_or]
    · rw [if_neg hk]
      have e1 : SS.has (j :: SS.del l k) s = ((s == j) || SS.has (SS.del l k) s) := rfl
      have e2 : SS.has (j :: l) s = ((s == j) || SS.has l s) := rfl
      rw [e1, e2, ih]
mutual
theorem fl_keepS {s : Bytes} : ∀ (x : Stm) (d : Int) (c : List Bytes) (u : Bool), (∀ y k, Vis.s y k ∈ visS x d → y.name ≠ s ∨ y.name = []) → SS.has (flS x c u) s = SS.has c s
  | .mk op name max a b body els, d, c, u, hk => by
    have vb : ∀ y k, Vis.s y k ∈ visSs body (IntKind.i64.wrap (d + 1)) → y.name ≠ s ∨ y.name = [] := fun y k hy => hk y k (vis_body _ hy)
    have ve : ∀ y k, Vis.s y k ∈ visSs els (IntKind.i64.wrap (d + 1)) → y.name ≠ s ∨ y.name = [] := fun y k hy => hk y k (vis_els _ hy)
    have h1 : SS.has (delS c u op name a b) s = SS.has c s := by
      unfold delS
      by_cases hd : (!(name == []) && (u || drtS c op a b)) = true
      · rw [if_pos hd]
        rw [Bool.and_eq_true] at hd
        have hne : name ≠ [] := by simpa using hd.1
        rcases hk _ d (vis_self _ d) with h | h
        · exact del_keep h c
        · exact absurd h hne
      · rw [if_neg hd]
    show SS.has (flL els (flL body (delS c u op name a b) (undS c u op a b)) (undS c u op a b)) s = SS.has c s
    rw [fl_keepL els _ _ _ ve, fl_keepL body _ _ _ vb, h1]
theorem fl_keepL {s : Bytes} : ∀ (l : List Stm) (d : Int) (c : List Bytes) (u : Bool), (∀ y k, Vis.s y k ∈ visSs l d → y.name ≠ s ∨ y.name = []) → SS.has (flL l c u) s = SS.has c s
  | [], d, c, u, hk => rfl
  | x :: l, d, c, u, hk => by
    show SS.has (flL l (flS x c u) u) s = SS.has c s
    rw [fl_keepL l d _ u (fun y k hy => hk y k (by rw [visSs]; exact List.mem_append_right _ hy)), fl_keepS x d c u (fun y k hy => hk y k (by rw [visSs]; exact List.mem_append_left _ hy))]
end
theorem it_keep {l : List Stm} {s : Bytes} (h : ∀ y k, Vis.s y k ∈ visSs l 1 → y.name ≠ s ∨ y.name = []) : ∀ (j : Nat) (c : List Bytes), SS.has (itG (fun c => flL l c false) j c) s = SS.has c s
  | 0, c => rfl
  | j + 1, c => by
    rw [itG_succ]
    exact (fl_keepL l 1 _ false h).trans (it_keep h j c)
def asgV : List Vis → List Bytes
  | [] => []
  | .s x _ :: l => if decide (x.op = 2) = true then x.name :: asgV l else asgV l
  | .e _ _ :: l => asgV l
theorem asgV_append : ∀ (l m : List Vis), asgV (l ++ m) = asgV l ++ asgV m
  | [], _ => rfl
  | .s x d :: l, m => by
    simp only [List.cons_append, asgV]
    split
    · rw [asgV_append l m]; rfl
    · exact asgV_append l m
  | .e x r :: l, m => asgV_append l m
theorem asgV_len : ∀ l : List Vis, (asgV l).length ≤ l.length
  | [] => Nat.le_refl _
  | .s x d :: l => by
    have := asgV_len l
    simp only [asgV]
    split <;> simp <;> omega
  | .e x r :: l => by
    have := asgV_len l
    simp only [asgV, List.length_cons]
    omega
theorem asgV_mem {x : Stm} {d : Int} (ho : x.op = 2) : ∀ l : List Vis, Vis.s x d ∈ l → x.name ∈ asgV l
  | [], h => by cases h
  | .s y k :: l, h => by
    simp only [asgV]
    rcases List.mem_cons.1 h with h | h
    · injection h with h1 h2
      subst h1
      rw [if_pos (by simpa using ho)]
      simp
    · have := asgV_mem ho l h
      split
      · exact List.mem_cons_of_mem _ this
      · exact this
  | .e y k :: l, h => by
    rcases List.mem_cons.1 h with h | h
    · cases h
    · exact asgV_mem ho l h
theorem namesV_mem {x : Stm} {d : Int} (ho : x.op = 1 ∨ x.op = 6) : ∀ l : List Vis, Vis.s x d ∈ l → x.name ∈ namesV l
  | [], h => by cases h
  | .s y k :: l, h => by
    simp only [namesV]
    rcases List.mem_cons.1 h with h | h
    · injection h with h1 h2
      subst h1
      rw [if_pos (by simpa using ho)]
      simp
    · have := namesV_mem ho l h
      split
      · exact List.mem_cons_of_mem _ this
      · exact this
  | .e y k :: l, h => by
    rcases List.mem_cons.1 h with h | h
    · cases h
    · exact namesV_mem ho l h
theorem param_clean {p : Pr} (hc : chkS p = 0) {x : Pm} (hx : x ∈ p.params) (ha : hv (asgV (visP p)) x.name = false) : hv (tnsS p) x.name = false := by
  obtain ⟨hc0, hnd⟩ := c0_eq hc
  have hN : x.name ∈ namesS p := by
    unfold namesS paramNames
    exact List.mem_append_left _ (List.mem_map.2 ⟨x, hx, rfl⟩)
  have V := (chk_small hc).2
  have hkeep : ∀ y k, Vis.s y k ∈ visSs p.body 1 → y.name ≠ x.name ∨ y.name = [] := by
    intro y k hy
    have K := kn_all hc y k hy
    rw [← V.vis] at hy
    by_cases hu : uN y.op = true
    · refine .inl fun he => ?_
      have : y.op = 1 ∨ y.op = 2 ∨ y.op = 6 := by simpa [uN, or_assoc] using hu
      have h16 : ¬ (y.op = 1 ∨ y.op = 6) := by
        intro h16
        have hm := namesV_mem h16 _ hy
        unfold namesS paramNames at hnd
        exact (List.nodup_append.1 hnd).2.2 x.name (List.mem_map.2 ⟨x, hx, rfl⟩) y.name hm he.symm
      have h2 : y.op = 2 := by omega
      have := asgV_mem h2 _ hy
      rw [he] at this
      rw [hv_mem.2 this] at ha
      cases ha
    · exact .inr (K.ok.nname (by simpa using hu))
  rw [tns_has hc x.name hN]
  have h1 : SS.has (clnS p) x.name = SS.has (c0S p) x.name := it_keep hkeep _ _
  rw [h1, hc0, has_mem.2 hN]
  rfl
end Go.Proofs.YtdcmimpjmngdlaaGreat
