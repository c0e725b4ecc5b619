/- Both checks find the same error. -/
import Derived.Test.YtjmghomnbmbjnaaGreatSeatG
import Derived.Test.YtjmghomnbmbjnaaGreatSeatE
import Derived.Test.YtjmghomnbmbjnaaGreatSeatA
set_option linter.unusedVariables false
set_option linter.unusedSimpArgs false
set_option linter.all false
set_option linter.deprecated false
set_option linter.all false
namespace Go.Proofs.YtjmghomnbmbjnaaGreat
open Go.Abs
theorem ss_put (m : List Bytes) (k j : Bytes) : SS.has (SS.put m k) j = ((j == k) || SS.has m j) := by
  induction m with
  | nil => simp [SS.put, SS.has]
  | cons i m ih =>
    simp only [SS.put]
    by_cases h : (k == i) = true
    · have : k = i := by simpa using h
      subst this
      rw [if_pos h]
      simp [SS.has]
    · rw [if_neg h]
      unfold SS.has at ih ⊢
      rw [List.any_cons, ih, List.any_cons]
      cases (j == i) <;> cases (j == k) <;> simp
theorem met_has (l : List Bytes) : ∀ (m : List Bytes) (x : Bytes), SS.has (metL m l) x = (SS.has m x || l.any fun y => y == x) := by
  induction l with
  | nil => intro m x; simp [metL]
  | cons y l ih =>
    intro m x
    rw [metL, ih, ss_put, List.any_cons, Bool.beq_comm (a := y)]
    cases SS.has m x <;> cases (x == y) <;> simp
theorem dup_eq : ∀ (l pre : List Bytes), dupF (metL [] pre) l = dupR pre l
  | [], _ => rfl
  | x :: l, pre => by
    have ih := dup_eq l (pre ++ [x])
    rw [metL_snoc] at ih
    simp only [dupF, dupR]
    rw [ih, met_has]
    rfl
theorem dupR_false : ∀ (l pre : List Bytes), dupR pre l = false ↔ (l.Nodup ∧ ∀ x ∈ l, x ∉ pre)
  | [], pre => by simp [dupR]
  | x :: l, pre => by
    simp only [dupR, Bool.or_eq_false_iff]
    rw [dupR_false l (pre ++ [x]), List.nodup_cons]
    constructor
    · rintro ⟨h1, h2, h3⟩
      refine ⟨⟨fun hx => ?_, h2⟩, fun y hy => ?_⟩
      · have := h3 x hx; simp at this
      · rcases List.mem_cons.1 hy with rfl | hy
        · intro hm
          have := List.any_eq_false.1 h1 y hm
          simp at this
        · exact fun hm => h3 y hy (List.mem_append_left _ hm)
    · rintro ⟨⟨h1, h2⟩, h3⟩
      refine ⟨?_, h2, fun y hy hm => ?_⟩
      · rw [List.any_eq_false]
        intro y hy e
        have : y = x := by simpa using e
        subst this
        exact h3 y (List.mem_cons_self ..) hy
      · rcases List.mem_append.1 hm with hm | hm
        · exact h3 y (List.mem_cons_of_mem _ hy) hm
        · rw [List.mem_singleton] at hm
          subst hm
          exact h1 hy
def uniq (m : NM) : Prop := (m.map Prod.fst).Nodup
theorem put_keys (k : Bytes) (t : Int) (j : Bytes) : ∀ m : NM, j ∈ (m.put k t).map Prod.fst ↔ j = k ∨ j ∈ m.map Prod.fst
  | [] => by simp [NM.put]
  | (i, u) :: m => by
    have ih := put_keys k t j m
    simp only [NM.put]
    by_cases h : (k == i) = true
    · have : k = i := by simpa using h
      subst this
      rw [if_pos h]
      simp
    · rw [if_neg h]
      simp only [List.map_cons, List.mem_cons, ih]
      constructor
      · rintro (h | h | h) <;> simp [h]
      · rintro (h | h | h) <;> simp [h]
theorem put_uniq (k : Bytes) (t : Int) : ∀ m : NM, uniq m → uniq (m.put k t)
  | [], _ => by simp [uniq, NM.put]
  | (i, u) :: m, h => by
    unfold uniq at h ⊢
    rw [List.map_cons, List.nodup_cons] at h
    simp only [NM.put]
    by_cases h' : (k == i) = true
    · have : k = i := by simpa using h'
      subst this
      rw [if_pos h', List.map_cons, List.nodup_cons]
      exact h
    · rw [if_neg h', List.map_cons, List.nodup_cons]
      refine ⟨fun hm => ?_, put_uniq k t m h.2⟩
      rcases (put_keys k t i m).1 hm with he | hm
      · simp at h'; exact h' he.symm
      · exact h.1 hm
theorem del_keys (k j : Bytes) : ∀ m : NM, j ∈ (m.del k).map Prod.fst → j ∈ m.map Prod.fst
  | [], h => h
  | (i, u) :: m, h => by
    simp only [NM.del] at h
    split at h
    · exact List.mem_cons_of_mem _ h
    · rw [List.map_cons] at h
      rcases List.mem_cons.1 h with h | h
      · simp [h]
      · exact List.mem_cons_of_mem _ (del_keys k j m h)
theorem del_uniq (k : Bytes) : ∀ m : NM, uniq m → uniq (m.del k)
  | [], h => h
  | (i, u) :: m, h => by
    unfold uniq at h ⊢
    rw [List.map_cons, List.nodup_cons] at h
    simp only [NM.del]
    split
    · exact h.2
    · rw [List.map_cons, List.nodup_cons]
      exact ⟨fun hm => h.1 (del_keys k i m hm), del_uniq k m h.2⟩
theorem get_none (k : Bytes) : ∀ m : NM, k ∉ m.map Prod.fst → m.get k = none
  | [], _ => rfl
  | (i, u) :: m, h => by
    simp only [List.map_cons, List.mem_cons, not_or] at h
    simp only [NM.get]
    rw [if_neg (by simpa using h.1)]
    exact get_none k m h.2
theorem get_del (k j : Bytes) : ∀ m : NM, uniq m → (m.del k).get j = if (j == k) = true then none else m.get j
  | [], _ => by simp [NM.del, NM.get]
  | (i, u) :: m, h => by
    unfold uniq at h
    rw [List.map_cons, List.nodup_cons] at h
    simp only [NM.del]
    by_cases h' : (k == i) = true
    · have : k = i := by simpa using h'
      subst this
      rw [if_pos h']
      by_cases h2 : (j == k) = true
      · rw [if_pos h2]
        have : j = k := by simpa using h2
        subst this
        exact get_none j m h.1
      · rw [if_neg h2]
        simp only [NM.get]
        rw [if_neg h2]
    · rw [if_neg h']
      simp only [NM.get]
      by_cases h3 : (j == i) = true
      · have : j = i := by simpa using h3
        subst this
        rw [if_pos h3, if_pos h3, if_neg]
        intro e
        apply h'
        rw [Bool.beq_comm]; exact e
      · rw [if_neg h3, if_neg h3]
        exact get_del k j m h.2
theorem getP_snoc (l : List Pm) (n : Bytes) (t : Int) (k : Bytes) : getP (l ++ [⟨n, t⟩]) k = match getP l k with
    | some u => some u
    | none => if (n == k) = true then some t else none := by
  induction l with
  | nil => simp [getP]
  | cons x l ih =>
    simp only [List.cons_append, getP]
    split
    · rfl
    · exact ih
theorem getP_mem {l : List Pm} {k : Bytes} {t : Int} (h : getP l k = some t) : k ∈ l.map Pm.name := by
  induction l with
  | nil => simp [getP] at h
  | cons x l ih =>
    simp only [getP] at h
    split at h
    · rename_i h1
      have : x.name = k := by simpa using h1
      simp [this]
    · exact List.mem_cons_of_mem _ (ih h)
theorem getP_none {l : List Pm} {k : Bytes} (h : k ∉ l.map Pm.name) : getP l k = none := by
  cases hg : getP l k with
  | none => rfl
  | some t => exact absurd (getP_mem hg) h
def rvF (out : List Pm) : Vis → List Pm
  | .s x _ => if decide (x.op = 1) = true then out ++ [⟨x.name, (ofS x.a out).1⟩] else if decide (x.op = 6) = true then out ++ [⟨x.name, 1⟩] else out
  | .e _ _ => out
theorem rvF_names : ∀ (l : List Vis) (T : List Pm), (l.foldl rvF T).map Pm.name = T.map Pm.name ++ namesV l
  | [], T => by simp [namesV]
  | .e x r :: l, T => by rw [List.foldl_cons]; simp only [rvF, namesV]; exact rvF_names l T
  | .s x d :: l, T => by
    rw [List.foldl_cons, rvF_names l]
    simp only [rvF, namesV]
    by_cases h1 : x.op = 1
    · simp [h1]
    · by_cases h6 : x.op = 6
      · simp [h6]
      · simp [h1, h6]
theorem foldl_es : ∀ (l : List Vis) (T : List Pm), (∀ v ∈ l, ∃ x r, v = Vis.e x r) → l.foldl rvF T = T
  | [], _, _ => rfl
  | v :: l, T, h => by
    obtain ⟨x, r, rfl⟩ := h v (List.mem_cons_self ..)
    rw [List.foldl_cons]
    exact foldl_es l T fun v hv => h v (List.mem_cons_of_mem _ hv)
theorem names_es : ∀ (l : List Vis), (∀ v ∈ l, ∃ x r, v = Vis.e x r) → namesV l = []
  | [], _ => rfl
  | v :: l, h => by
    obtain ⟨x, r, rfl⟩ := h v (List.mem_cons_self ..)
    exact names_es l fun v hv => h v (List.mem_cons_of_mem _ hv)
theorem visE_all (e : E) (r : Bool) : ∀ v ∈ visE e r, ∃ x q, v = Vis.e x q := by
  intro v hv
  cases e with
  | mk op n s args =>
    simp only [visE, List.mem_cons] at hv
    rcases hv with hv | hv
    · exact ⟨_, _, hv⟩
    · obtain ⟨x, hx⟩ := visEs_falseA args v hv
      exact ⟨x, false, hx⟩
theorem visA_all (e : E) : ∀ v ∈ (if absE e = true then [] else visE e true), ∃ x q, v = Vis.e x q := by
  intro v hv
  split at hv
  · simp at hv
  · exact visE_all e true v hv
theorem fold_visS (op : Int) (name : Bytes) (max : Int) (a b : E) (body els : List Stm) (d : Int) (T : List Pm) :
    (visS (.mk op name max a b body els) d).foldl rvF T = (visSs els (IntKind.i64.wrap (d + 1))).foldl rvF ((visSs body (IntKind.i64.wrap (d + 1))).foldl rvF (rvF T (.s (.mk op name max a b body els) d))) := by
  simp only [visS, List.foldl_cons, List.foldl_append]
  rw [foldl_es _ _ (visA_all a), foldl_es _ _ (visA_all b)]
theorem names_visS (op : Int) (name : Bytes) (max : Int) (a b : E) (body els : List Stm) (d : Int) :
    namesV (visS (.mk op name max a b body els) d) = (if (decide (op = 1) || decide (op = 6)) = true then [name] else []) ++ (namesV (visSs body (IntKind.i64.wrap (d + 1))) ++ namesV (visSs els (IntKind.i64.wrap (d + 1)))) := by
  simp only [visS, namesV, namesV_append]
  rw [names_es _ (visA_all a), names_es _ (visA_all b)]
  split <;> simp
end Go.Proofs.YtjmghomnbmbjnaaGreat
set_option linter.all false
namespace Go.Proofs.YtjmghomnbmbjnaaGreat
open Go.Abs
structure Link (s : CkS) (vars : List Pm) (loops : List Bytes) (T : List Pm) : Prop where
  l1 : ∀ k, s.vis.get k = getP vars k
  l1t : ∀ k t, getP vars k = some t → 1 ≤ t ∧ t ≤ 3
  l2 : ∀ k t, getP vars k = some t → SS.has s.loops k = loops.any fun j => j == k
  l3a : ∀ k t, getP vars k = some t → getP T k = some t
  l3b : ∀ k, SS.has s.loops k = true → k ∈ T.map Pm.name
  l3c : ∀ k, (loops.any fun j => j == k) = true → k ∈ T.map Pm.name
  l4 : ∀ k, s.all.get k = getP T k
  u : uniq s.vis
def letsN : List Stm → List Bytes
  | [] => []
  | x :: l => if decide (x.op = 1) = true then x.name :: letsN l else letsN l
theorem lets_names : ∀ (l : List Stm) (d : Int) (k : Bytes), k ∈ letsN l → k ∈ namesV (visSs l d)
  | [], _, _, h => by simp [letsN] at h
  | x :: l, d, k, h => by
    simp only [visSs, namesV_append, List.mem_append]
    simp only [letsN] at h
    split at h
    · rename_i h1
      rcases List.mem_cons.1 h with rfl | h
      · left
        cases x with
        | mk op name max a b body els =>
        rw [names_visS]
        simp only [Stm.op, Stm.name] at h1 ⊢
        rw [if_pos (by rw [h1]; rfl)]
        simp
      · exact .inr (lets_names l d k h)
    · exact .inr (lets_names l d k h)
theorem dels_uniq : ∀ (l : List Stm) (m : NM), uniq m → uniq (dels m l)
  | [], _, h => h
  | x :: l, m, h => by
    simp only [dels]
    split
    · exact dels_uniq l _ (del_uniq _ _ h)
    · exact dels_uniq l _ h
theorem dels_get (k : Bytes) : ∀ (l : List Stm) (m : NM), uniq m → (k ∈ letsN l → (dels m l).get k = none) ∧ (k ∉ letsN l → (dels m l).get k = m.get k)
  | [], m, _ => ⟨fun h => by simp [letsN] at h, fun _ => rfl⟩
  | x :: l, m, h => by
    simp only [dels, letsN]
    split
    · have ih := dels_get k l (m.del x.name) (del_uniq _ _ h)
      have hg := get_del x.name k m h
      constructor
      · intro hk
        by_cases h2 : k ∈ letsN l
        · exact ih.1 h2
        · rw [ih.2 h2, hg]
          rcases List.mem_cons.1 hk with rfl | hk
          · simp
          · exact absurd hk h2
      · intro hk
        simp only [List.mem_cons, not_or] at hk
        rw [ih.2 hk.2, hg, if_neg (by simpa using hk.1)]
    · exact dels_get k l m h
theorem vsAfter_some (k : Bytes) (t : Int) : ∀ (l : List Stm) (vars : List Pm), getP vars k = some t → getP (vsAfter vars l) k = some t
  | [], vars, h => h
  | x :: l, vars, h => by
    simp only [vsAfter]
    refine vsAfter_some k t l _ ?_
    split
    · exact getP_append h
    · exact h
theorem vsAfter_none (k : Bytes) : ∀ (l : List Stm) (vars : List Pm), getP vars k = none → k ∉ letsN l → getP (vsAfter vars l) k = none
  | [], vars, h, _ => h
  | x :: l, vars, h, hk => by
    simp only [vsAfter, letsN] at hk ⊢
    split at hk
    · rename_i h1
      simp only [List.mem_cons, not_or] at hk
      rw [if_pos h1]
      refine vsAfter_none k l _ ?_ hk.2
      rw [getP_snoc, h]
      simp only
      rw [if_neg]
      intro e
      exact hk.1 (by simpa using (by simpa using e : x.name = k).symm)
    · rename_i h1
      rw [if_neg h1]
      exact vsAfter_none k l vars h hk
theorem linkE {l : List Stm} {d : Int} {s : CkS} {vars : List Pm} {loops : List Bytes} {T : List Pm} (L : Link s vars loops T) (hd : ∀ n ∈ namesV (visSs l d), n ∉ T.map Pm.name)
    (hB : (blP s l).1 = bdR vars loops l ∧ ((blP s l).1 = 0 → Link (blP s l).2 (vsAfter vars l) loops ((visSs l d).foldl rvF T))) :
    (endB (blP s l) l).1 = bdR vars loops l ∧ ((endB (blP s l) l).1 = 0 → Link (endB (blP s l) l).2 vars loops ((visSs l d).foldl rvF T)) := by
  obtain ⟨h1, h2⟩ := hB
  unfold endB
  by_cases h : (blP s l).1 = 0
  · rw [if_pos (by simpa using h)]
    have K := h2 h
    refine ⟨by rw [← h1, h], fun _ => ⟨fun k => ?_, L.l1t, fun k t hk => K.l2 k t (vsAfter_some k t l vars hk), fun k t hk => K.l3a k t (vsAfter_some k t l vars hk), K.l3b, K.l3c, K.l4, dels_uniq l _ K.u⟩⟩
    have hg := dels_get k l _ K.u
    by_cases hk : k ∈ letsN l
    · show NM.get (dels _ l) k = _
      rw [hg.1 hk]
      cases hp : getP vars k with
      | none => rfl
      | some t => exact absurd (getP_mem (L.l3a k t hp)) (hd k (lets_names l d k hk))
    · show NM.get (dels _ l) k = _
      rw [hg.2 hk, K.l1]
      cases hp : getP vars k with
      | some t => exact vsAfter_some k t l vars hp
      | none => exact vsAfter_none k l vars hp hk
  · rw [if_neg (by simpa using h)]
    exact ⟨h1, fun h' => absurd h' h⟩
theorem link_put {s : CkS} {vars : List Pm} {loops : List Bytes} {T : List Pm} (L : Link s vars loops T) {n : Bytes} (hn : n ∉ T.map Pm.name) {t : Int} (ht : 1 ≤ t ∧ t ≤ 3) : Link (dclS s n t) (vars ++ [⟨n, t⟩]) loops (T ++ [⟨n, t⟩]) := by
  have hv : getP vars n = none := by
    cases hp : getP vars n with
    | none => rfl
    | some u => exact absurd (getP_mem (L.l3a n u hp)) hn
  have hl : SS.has s.loops n = false := by
    cases hh : SS.has s.loops n with
    | false => rfl
    | true => exact absurd (L.l3b n hh) hn
  have hl' : (loops.any fun j => j == n) = false := by
    cases hh : (loops.any fun j => j == n) with
    | false => rfl
    | true => exact absurd (L.l3c n hh) hn
  have sub : ∀ k, k ∈ T.map Pm.name → k ∈ (T ++ [(⟨n, t⟩ : Pm)]).map Pm.name := fun k hk => by rw [List.map_append]; exact List.mem_append_left _ hk
  refine ⟨fun k => ?_, fun k u hk => ?_, fun k u hk => ?_, fun k u hk => ?_, fun k hk => sub k (L.l3b k hk), fun k hk => sub k (L.l3c k hk), fun k => ?_, put_uniq _ _ _ L.u⟩
  · show (s.vis.put n t).get k = _
    rw [get_put, getP_snoc, L.l1 k]
    by_cases h : (k == n) = true
    · have : k = n := by simpa using h
      subst this
      rw [if_pos h, hv]
      simp
    · rw [if_neg h]
      cases getP vars k with
      | some u => rfl
      | none =>
        simp only
        rw [if_neg]
        intro e
        apply h
        rw [Bool.beq_comm]; exact e
  · rw [getP_snoc] at hk
    cases hp : getP vars k with
    | some w => rw [hp] at hk; cases hk; exact L.l1t k _ hp
    | none =>
      rw [hp] at hk
      simp only at hk
      split at hk
      · cases hk; exact ht
      · cases hk
  · rw [getP_snoc] at hk
    cases hp : getP vars k with
    | some w => exact L.l2 k _ hp
    | none =>
      rw [hp] at hk
      simp only at hk
      split at hk
      · rename_i e
        have : n = k := by simpa using e
        subst this
        show SS.has s.loops n = _
        rw [hl, hl']
      · cases hk
  · rw [getP_snoc] at hk ⊢
    cases hp : getP vars k with
    | some w => rw [hp] at hk; cases hk; rw [L.l3a k _ hp]
    | none =>
      rw [hp] at hk
      simp only at hk
      split at hk
      · rename_i e
        have : n = k := by simpa using e
        subst this
        rw [getP_none hn]
        simp only
        rw [if_pos e]
        exact hk
      · cases hk
  · show (s.all.put n t).get k = _
    rw [get_put, getP_snoc, L.l4 k]
    by_cases h : (k == n) = true
    · have : k = n := by simpa using h
      subst this
      rw [if_pos h, getP_none hn]
      simp
    · rw [if_neg h]
      cases getP T k with
      | some u => rfl
      | none =>
        simp only
        rw [if_neg]
        intro e
        apply h
        rw [Bool.beq_comm]; exact e
theorem link_loop {s : CkS} {vars : List Pm} {loops : List Bytes} {T : List Pm} (L : Link s vars loops T) {n : Bytes} (hn : n ∉ T.map Pm.name) : Link { dclS s n 1 with loops := SS.put s.loops n } (vars ++ [⟨n, 1⟩]) (loops ++ [n]) (T ++ [⟨n, 1⟩]) := by
  have K := link_put L hn (t := 1) (by omega)
  refine ⟨K.l1, K.l1t, fun k u hk => ?_, K.l3a, fun k hk => ?_, fun k hk => ?_, K.l4, K.u⟩
  · have h2 := K.l2 k u hk
    show SS.has (SS.put s.loops n) k = _
    rw [ss_put, List.any_append]
    have h3 : SS.has s.loops k = loops.any fun j => j == k := h2
    rw [h3]
    simp only [List.any_cons, List.any_nil, Bool.or_false]
    rw [Bool.or_comm, Bool.beq_comm]
  · have hk' : SS.has (SS.put s.loops n) k = true := hk
    rw [ss_put, Bool.or_eq_true] at hk'
    rcases hk' with h | h
    · have : k = n := by simpa using h
      subst this
      simp
    · exact K.l3b k h
  · rw [List.any_append, Bool.or_eq_true] at hk
    rcases hk with h | h
    · exact K.l3c k h
    · have : n = k := by simpa using h
      subst this
      simp
theorem link_unloop {s s0 : CkS} {vars : List Pm} {loops : List Bytes} {T T0 : List Pm} {n : Bytes} (L : Link s (vars ++ [⟨n, 1⟩]) (loops ++ [n]) T) (L0 : Link s0 vars loops T0) (hn : n ∉ T0.map Pm.name) (hT : ∀ k, k ∈ T0.map Pm.name → k ∈ T.map Pm.name) :
    Link { s with vis := s.vis.del n } vars loops T := by
  have hv : getP vars n = none := by
    cases hp : getP vars n with
    | none => rfl
    | some u => exact absurd (getP_mem (L0.l3a n u hp)) hn
  refine ⟨fun k => ?_, L0.l1t, fun k t hk => ?_, fun k t hk => L.l3a k t (getP_append hk), L.l3b, fun k hk => hT k (L0.l3c k hk), L.l4, del_uniq _ _ L.u⟩
  · show (s.vis.del n).get k = _
    rw [get_del _ _ _ L.u]
    by_cases h : (k == n) = true
    · have : k = n := by simpa using h
      subst this
      rw [if_pos h, hv]
    · rw [if_neg h, L.l1, getP_snoc]
      cases getP vars k with
      | some u => rfl
      | none =>
        simp only
        rw [if_neg]
        intro e
        apply h
        rw [Bool.beq_comm]; exact e
  · have h2 := L.l2 k t (getP_append hk)
    show SS.has s.loops k = _
    rw [h2, List.any_append]
    have : (n == k) = false := by
      cases hh : (n == k) with
      | false => rfl
      | true =>
        have : n = k := by simpa using hh
        subst this
        rw [hv] at hk; cases hk
    simp [this]
end Go.Proofs.YtjmghomnbmbjnaaGreat
set_option linter.all false
namespace Go.Proofs.YtjmghomnbmbjnaaGreat
open Go.Abs
attribute [local congr] ite_congr
set_option maxRecDepth 10000
theorem opsS_a {lk : Bytes → Option Int} {x : Stm} (h8 : x.op ≠ 8) (h : (opsS lk x).2.2 = 0) : (ofE lk x.a).2 = 0 ∧ (opsS lk x).1 = (ofE lk x.a).1 := by
  unfold opsS at h ⊢
  rw [if_neg (by simpa using h8)] at h ⊢
  by_cases hc : (decide ((ofE lk x.a).2 = 0) && (decide (x.op = 3) || decide (x.op = 6))) = true
  · rw [if_pos hc] at h ⊢
    simp only [Bool.and_eq_true, decide_eq_true_eq] at hc
    exact ⟨hc.1, rfl⟩
  · rw [if_neg hc] at h ⊢
    exact ⟨h, rfl⟩
theorem rvF_let {vars T : List Pm} {x : Stm} {d : Int} (hs : StmOk x d) (h1 : x.op = 1) (hl : ∀ k t, getP vars k = some t → getP T k = some t) (h : (opsS (getP vars) x).2.2 = 0) :
    rvF T (.s x d) = T ++ [⟨x.name, (opsS (getP vars) x).1⟩] ∧ 1 ≤ (opsS (getP vars) x).1 ∧ (opsS (getP vars) x).1 ≤ 3 := by
  obtain ⟨e1, e2⟩ := opsS_a (by omega) h
  have e3 := ofE_mono hl x.a e1
  have e4 : ofS x.a T = ofE (getP vars) x.a := by
    unfold ofS
    rw [if_pos (by simpa using hs.a (by simp [uA]; omega)), e3]
  have e5 := ofE_ok _ x.a e1
  simp only [rvF]
  rw [if_pos (by simpa using h1), e4, e2]
  exact ⟨rfl, e5⟩
mutual
theorem linkS : ∀ (x : Stm) (d : Int) (s : CkS) (vars : List Pm) (loops : List Bytes) (T : List Pm), (∀ y k, Vis.s y k ∈ visS x d → StmOk y k) → Link s vars loops T → (namesV (visS x d)).Nodup → (∀ n ∈ namesV (visS x d), n ∉ T.map Pm.name) →
    (stP s x).1 = stR vars loops x ∧ ((stP s x).1 = 0 → Link (stP s x).2 (if decide (x.op = 1) = true then vars ++ [⟨x.name, (opsS (getP vars) x).1⟩] else vars) loops ((visS x d).foldl rvF T))
  | .mk op name max a b body els, d, s, vars, loops, T, hv, L, hnd, hdis => by
    have hs := hv _ d (vis_self _ d)
    have hlk : s.vis.get = getP vars := funext L.l1
    have vb : ∀ y k, Vis.s y k ∈ visSs body (IntKind.i64.wrap (d + 1)) → StmOk y k := fun y k hy => hv y k (vis_body _ hy)
    have ve : ∀ y k, Vis.s y k ∈ visSs els (IntKind.i64.wrap (d + 1)) → StmOk y k := fun y k hy => hv y k (vis_els _ hy)
    have IB := fun s vars loops T L h1 h2 => linkB body (IntKind.i64.wrap (d + 1)) s vars loops T vb L h1 h2
    have IE := fun s vars loops T L h1 h2 => linkB els (IntKind.i64.wrap (d + 1)) s vars loops T ve L h1 h2
    rw [names_visS] at hnd hdis
    rw [fold_visS]
    have hlet := fun h1 h => rvF_let (vars := vars) (T := T) hs h1 L.l3a h
    rw [stP, stR, hlk]
    have hop := hs.op
    have nb := hs.nbody
    have ne := hs.nels
    generalize hr : opsS (getP vars) (.mk op name max a b body els) = r at *
    obtain ⟨r1, r2, r3⟩ := r
    simp only [Stm.op, Stm.name, Stm.body, Stm.els] at hop nb ne hlet ⊢
    by_cases h0 : r3 = 0
    · subst h0
      simp only [decide_true, if_true, Bool.true_and]
      have ho : op = 1 ∨ op = 2 ∨ op = 3 ∨ op = 4 ∨ op = 5 ∨ op = 6 ∨ op = 7 ∨ op = 8 := by omega
      rcases ho with rfl | rfl | rfl | rfl | rfl | rfl | rfl | rfl
      · have hb : body = [] := nb rfl
        have he : els = [] := ne rfl
        subst hb; subst he
        obtain ⟨g1, g2⟩ := hlet rfl rfl
        have hn : name ∉ T.map Pm.name := hdis name (by simp)
        simp only [wrgS, visSs, List.foldl_nil, g1]
        simp
        exact link_put L hn g2
      · have hb : body = [] := nb rfl
        have he : els = [] := ne rfl
        subst hb; subst he
        have hT : rvF T (.s (.mk 2 name max a b [] []) d) = T := by rfl
        simp only [visSs, List.foldl_nil, hT]
        cases hg : getP vars name with
        | none =>
          have e_as : asgS vars loops name r1 = 11 := by unfold asgS; rw [hg]; rfl
          simp only [L.l1, hg, e_as, wrgS, Int.reduceEq, decide_true, decide_false, Bool.false_eq_true, if_true, if_false, Bool.and_true, Bool.and_false, Bool.false_and]
          exact ⟨trivial, fun h => by cases h⟩
        | some t =>
          have ht := L.l1t name t hg
          have h2 := L.l2 name t hg
          have hvs : varS (some t) = (t, 0) := by
            unfold varS
            simp only
            rw [if_neg (by simp; omega)]
          have e_as : asgS vars loops name r1 = if (loops.any fun j => j == name) = true then 7 else if decide (r1 = t) = true then 0 else 10 := by
            unfold asgS
            rw [hg, hvs]
            rfl
          simp only [L.l1, hg, e_as, h2, wrgS, Int.reduceEq, decide_true, decide_false, Bool.false_eq_true, if_true, if_false, Bool.and_true, Bool.and_false, Bool.false_and]
          cases hh : (loops.any fun j => j == name) with
          | true =>
            simp only [if_true, Int.reduceEq, decide_false, Bool.false_and, Bool.and_false, Bool.false_eq_true, if_false]
            exact ⟨trivial, fun h => by cases h⟩
          | false =>
            by_cases hta : t = r1
            · subst hta
              simp only [Bool.false_eq_true, if_false, decide_true, if_true, Bool.and_false]
              exact ⟨trivial, fun _ => L⟩
            · have d1 : decide (t = r1) = false := by simp [hta]
              have d2 : decide (r1 = t) = false := by simp; exact fun e => hta e.symm
              simp only [d1, d2, Bool.false_eq_true, if_false, Int.reduceEq, decide_false, Bool.false_and, Bool.and_false]
              exact ⟨trivial, fun h => by cases h⟩
      · have hb : body = [] := nb rfl
        have he : els = [] := ne rfl
        subst hb; subst he
        have hT : rvF T (.s (.mk 3 name max a b [] []) d) = T := by rfl
        simp only [visSs, List.foldl_nil, hT]
        by_cases h2 : r1 = 2 <;> by_cases h3 : r2 = 3 <;> simp [wrgS, h2, h3] <;> exact L
      · have hb : body = [] := nb rfl
        have he : els = [] := ne rfl
        subst hb; subst he
        have hT : rvF T (.s (.mk 4 name max a b [] []) d) = T := by rfl
        simp only [visSs, List.foldl_nil, hT]
        by_cases h2 : r1 = 2 <;> simp [wrgS, h2] <;> exact L
      · have hT : rvF T (.s (.mk 5 name max a b body els) d) = T := by rfl
        rw [hT]
        have hd5 : ∀ n, n ∈ namesV (visSs body (IntKind.i64.wrap (d + 1))) → n ∉ T.map Pm.name := fun n hn => hdis n (by simp [hn])
        have hn5 : (namesV (visSs body (IntKind.i64.wrap (d + 1))) ++ namesV (visSs els (IntKind.i64.wrap (d + 1)))).Nodup := by simpa using hnd
        rw [List.nodup_append] at hn5
        have KB := linkE L hd5 (IB s vars loops T L hn5.1 hd5)
        have hE : (endB (blP s body) body).1 = 0 → (∀ n, n ∈ namesV (visSs els (IntKind.i64.wrap (d + 1))) → n ∉ ((visSs body (IntKind.i64.wrap (d + 1))).foldl rvF T).map Pm.name) := by
          intro _ n hn
          rw [rvF_names, List.mem_append]
          rintro (hm | hm)
          · exact hdis n (by simp [hn]) hm
          · exact hn5.2.2 n hm n hn rfl
        by_cases h3 : r1 = 3
        · have w5 : wrgS 5 r1 r2 = false := by simp [wrgS, h3]
          simp only [w5]
          simp [h3]
          obtain ⟨q1, q2⟩ := KB
          by_cases hb0 : (endB (blP s body) body).1 = 0
          · have hb1 : bdR vars loops body = 0 := by rw [← q1]; exact hb0
            have L2 := q2 hb0
            have KE := linkE L2 (hE hb0) (IE _ vars loops _ L2 hn5.2.1 (hE hb0))
            simp only [hb0, hb1, if_true]
            exact KE
          · have hb1 : ¬ bdR vars loops body = 0 := by rw [← q1]; exact hb0
            simp only [hb0, hb1, if_false]
            exact ⟨q1, fun h => (by first | exact h.elim | exact absurd h hb0)⟩
        · have w5 : wrgS 5 r1 r2 = true := by simp [wrgS, h3]
          simp only [w5]
          simp [h3]
      · have he : els = [] := ne rfl
        subst he
        have hT : rvF T (.s (.mk 6 name max a b body []) d) = T ++ [⟨name, 1⟩] := by rfl
        rw [hT]
        have hn : name ∉ T.map Pm.name := hdis name (by simp)
        have hn6 : (name :: namesV (visSs body (IntKind.i64.wrap (d + 1)))).Nodup := by simpa [visSs, namesV] using hnd
        rw [List.nodup_cons] at hn6
        have L1 := link_loop L hn
        have hd6 : ∀ n, n ∈ namesV (visSs body (IntKind.i64.wrap (d + 1))) → n ∉ (T ++ [(⟨name, 1⟩ : Pm)]).map Pm.name := by
          intro n hm
          rw [List.map_append, List.mem_append]
          rintro (h | h)
          · exact hdis n (by simp [hm]) h
          · simp at h; subst h; exact hn6.1 hm
        have KB := linkE L1 hd6 (IB _ _ _ _ L1 hn6.2 hd6)
        by_cases h1 : r1 = 1
        · by_cases h2 : r2 = 1
          · have w6 : wrgS 6 r1 r2 = false := by simp [wrgS, h1, h2]
            simp only [w6]
            simp [h1, h2, visSs]
            obtain ⟨q1, q2⟩ := KB
            refine ⟨q1, fun hz => ?_⟩
            refine link_unloop (q2 hz) L hn fun k hk => ?_
            rw [rvF_names, List.map_append]
            exact List.mem_append_left _ (List.mem_append_left _ hk)
          · have w6 : wrgS 6 r1 r2 = true := by simp [wrgS, h2]
            simp only [w6]
            simp [h2]
        · have w6 : wrgS 6 r1 r2 = true := by simp [wrgS, h1]
          simp only [w6]
          simp [h1]
      · have hb : body = [] := nb rfl
        have he : els = [] := ne rfl
        subst hb; subst he
        have hT : rvF T (.s (.mk 7 name max a b [] []) d) = T := by rfl
        simp only [visSs, List.foldl_nil, hT]
        by_cases h2 : r1 = 3 <;> simp [wrgS, h2] <;> exact L
      · have hb : body = [] := nb rfl
        have he : els = [] := ne rfl
        subst hb; subst he
        have hT : rvF T (.s (.mk 8 name max a b [] []) d) = T := by rfl
        simp only [visSs, List.foldl_nil, hT]
        simp [wrgS]
        exact L
    · have d0 : decide (r3 = 0) = false := by simp [h0]
      simp only [d0, Bool.false_and, Bool.false_eq_true, if_false]
      exact ⟨trivial, fun h => absurd h h0⟩
theorem linkB : ∀ (l : List Stm) (d : Int) (s : CkS) (vars : List Pm) (loops : List Bytes) (T : List Pm), (∀ y k, Vis.s y k ∈ visSs l d → StmOk y k) → Link s vars loops T → (namesV (visSs l d)).Nodup → (∀ n ∈ namesV (visSs l d), n ∉ T.map Pm.name) →
    (blP s l).1 = bdR vars loops l ∧ ((blP s l).1 = 0 → Link (blP s l).2 (vsAfter vars l) loops ((visSs l d).foldl rvF T))
  | [], d, s, vars, loops, T, hv, L, hnd, hdis => by
    rw [blP_nil, bdR_nil]
    exact ⟨rfl, fun _ => L⟩
  | x :: l, d, s, vars, loops, T, hv, L, hnd, hdis => by
    simp only [visSs, namesV_append] at hnd hdis
    rw [List.nodup_append] at hnd
    have H := linkS x d s vars loops T (fun y k hy => hv y k (by simp only [visSs, List.mem_append]; exact .inl hy)) L hnd.1 (fun n hn => hdis n (List.mem_append_left _ hn))
    rw [blP_cons, bdR_cons]
    by_cases h : (stP s x).1 = 0
    · have h' : stR vars loops x = 0 := by rw [← H.1]; exact h
      rw [if_pos (by simpa using h), if_pos (by simpa using h')]
      simp only [visSs, List.foldl_append, vsAfter]
      refine linkB l d _ _ loops _ (fun y k hy => hv y k (by simp only [visSs, List.mem_append]; exact .inr hy)) (H.2 h) hnd.2.1 (fun n hn => ?_)
      rw [rvF_names, List.mem_append]
      rintro (hm | hm)
      · exact hdis n (List.mem_append_right _ hn) hm
      · exact hnd.2.2 n hm n hn rfl
    · have h' : ¬ stR vars loops x = 0 := by rw [← H.1]; exact h
      rw [if_neg (by simpa using h), if_neg (by simpa using h')]
      exact ⟨H.1, fun h2 => absurd h2 h⟩
end
theorem link_params : ∀ (l pre : List Pm) (s : CkS), Link s pre [] pre → (∀ x ∈ l, 1 ≤ x.type ∧ x.type ≤ 3) → ((pre ++ l).map Pm.name).Nodup → Link (dclL s l) (pre ++ l) [] (pre ++ l)
  | [], pre, s, L, _, _ => by rw [List.append_nil]; exact L
  | x :: l, pre, s, L, ht, hn => by
    rw [dclL]
    have hx : x.name ∉ pre.map Pm.name := by
      rw [List.map_append, List.nodup_append] at hn
      intro hm
      exact hn.2.2 x.name hm x.name (by simp) rfl
    have K := link_put L hx (ht x (List.mem_cons_self ..))
    have := link_params l (pre ++ [⟨x.name, x.type⟩]) _ K (fun y hy => ht y (List.mem_cons_of_mem _ hy)) (by simpa using hn)
    simpa using this
theorem link0 : Link ⟨[], [], []⟩ [] [] [] := by
  refine ⟨fun k => rfl, fun k t h => ?_, fun k t h => ?_, fun k t h => ?_, fun k h => ?_, fun k h => ?_, fun k => rfl, ?_⟩
  · simp [getP] at h
  · simp [getP] at h
  · simp [getP] at h
  · simp [SS.has] at h
  · simp at h
  · simp [uniq]
def allV (p : Pr) : List Pm := (visSs p.body 1).foldl rvF p.params
theorem ck_link {p : Pr} (V : Vld p) (hd : dupR [] (namesS p) = false) : (ckB p).1 = bdR p.params [] p.body ∧ ((ckB p).1 = 0 → Link (ckB p).2 p.params [] (allV p)) := by
  obtain ⟨h1, h2, h3⟩ := (prmS_zero3 _).1 V.prm
  have hn := ((dupR_false _ _).1 hd).1
  unfold namesS paramNames at hn
  rw [V.vis] at hn
  have L0 := link_params p.params [] _ link0 (fun x hx => (h2 x hx).2) (by simpa using h3)
  rw [List.nil_append] at L0
  rw [List.nodup_append] at hn
  have hdis : ∀ n ∈ namesV (visSs p.body 1), n ∉ p.params.map Pm.name := fun n hn' hm => hn.2.2 n hm n hn' rfl
  exact linkE L0 hdis (linkB p.body 1 _ p.params [] p.params V.stmOk3 L0 hn.2.1 hdis)
theorem chk_eq (p : Pr) : chkS p = chkT p := by
  unfold chkS preErr chkT
  have hdup : dupF [] (namesS p) = dupR [] (namesS p) := dup_eq (namesS p) []
  by_cases h1 : valS p = 0
  · have V := (valS_zero p).1 h1
    simp only [h1, decide_true, if_true]
    by_cases h2 : prmBool p.params = true
    · simp [h2]
    · simp only [h2, Bool.false_eq_true, if_false]
      rw [hdup]
      cases h3 : dupR [] (namesS p) with
      | true => simp
      | false =>
        simp
        exact (ck_link V h3).1
  · have d1 : decide (valS p = 0) = false := by simp [h1]
    simp only [d1, Bool.false_eq_true, if_false]
end Go.Proofs.YtjmghomnbmbjnaaGreat
