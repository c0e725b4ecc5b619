/- The slots that the code loads and stores: the plain part. -/
import Derived.Test.YtjmghomnbmbjnaaGreatSeatU
import Derived.Test.YtjmghomnbmbjnaaGreatSeatV
import Derived.Test.YtjmghomnbmbjnaaGreatSeatY
import Derived.Test.YtjmghomnbmbjnaaGreatSeatK
set_option linter.unusedVariables false
set_option linter.unusedSimpArgs false
set_option linter.all false
set_option linter.deprecated false
set_option linter.all false
namespace Go.Proofs.YtjmghomnbmbjnaaGreat
open Go.Abs
set_option maxRecDepth 10000
theorem slot_at (w : Bytes) (suf : List Bytes) : ∀ (pre : List Bytes) (k : Nat), w ∉ pre → idxF (fun s => w == s) (pre ++ w :: suf) k = ((k + pre.length : Nat) : Int)
  | [], k, h => by simp [idxF]
  | x :: pre, k, h => by
    have hx : (w == x) = false := by
      have : w ≠ x := fun e => h (by rw [e]; simp)
      simpa using this
    have ih := slot_at w suf pre (k + 1) (fun hm => h (List.mem_cons_of_mem _ hm))
    rw [List.cons_append, idxF, hx, if_neg (by decide), ih, List.length_cons]
    congr 1
    omega
theorem slotN_at {S : List Bytes} {w : Bytes} {pre suf : List Bytes} (h : S = pre ++ w :: suf) (hn : w ∉ pre) : slotN S w = (pre.length : Nat) := by
  rw [h]
  have := slot_at w suf pre 0 hn
  unfold slotN
  rw [this, Nat.zero_add]
theorem mem_dec {w : Bytes} : ∀ {l : List Bytes}, w ∈ l → ∃ pre suf, l = pre ++ w :: suf ∧ w ∉ pre
  | [], h => by cases h
  | x :: l, h => by
    by_cases hx : x = w
    · exact ⟨[], l, by rw [hx]; rfl, by simp⟩
    · have hm : w ∈ l := by
        rcases List.mem_cons.1 h with h | h
        · exact absurd h.symm hx
        · exact h
      obtain ⟨pre, suf, h1, h2⟩ := mem_dec hm
      refine ⟨x :: pre, suf, by rw [h1]; rfl, ?_⟩
      intro hc
      rcases List.mem_cons.1 hc with hc | hc
      · exact hx hc.symm
      · exact h2 hc
theorem dbl_dec {L : List Bytes} {w : Bytes} (hL : hasN L w = true) (hw : w ≠ []) : ∀ {l : List Bytes}, w ∈ l → ∃ pre suf, l.flatMap (dbl L) = pre ++ w :: [] :: suf ∧ w ∉ pre
  | [], h => by cases h
  | x :: l, h => by
    rw [List.flatMap_cons]
    by_cases hx : x = w
    · refine ⟨[], l.flatMap (dbl L), ?_, by simp⟩
      rw [hx]
      unfold dbl
      rw [hL]
      rfl
    · have hm : w ∈ l := by
        rcases List.mem_cons.1 h with h | h
        · exact absurd h.symm hx
        · exact h
      obtain ⟨pre, suf, h1, h2⟩ := dbl_dec hL hw hm
      refine ⟨dbl L x ++ pre, suf, by rw [h1, List.append_assoc], ?_⟩
      intro hc
      rcases List.mem_append.1 hc with hc | hc
      · unfold dbl at hc
        split at hc
        · simp at hc
          rcases hc with hc | hc
          · exact hx hc.symm
          · exact hw hc
        · simp at hc
          exact hx hc.symm
      · exact h2 hc
theorem slotN_lt {S : List Bytes} {w : Bytes} (h : w ∈ S) : 0 ≤ slotN S w ∧ slotN S w < (S.length : Nat) := by
  obtain ⟨pre, suf, h1, h2⟩ := mem_dec h
  rw [slotN_at h1 h2, h1]
  simp
  omega
def GoodI (S : List Bytes) (x : In) : Prop := ((x.op = 3 ∨ x.op = 4 ∨ x.op = 12) → 0 ≤ x.a ∧ x.a < (S.length : Nat)) ∧
  (x.op = 12 → ∃ i : Nat, x.a = (i : Nat) ∧ x.b = (i + 1 : Nat) ∧ i + 1 < S.length ∧ (∃ w, S[i]? = some w ∧ w ≠ []) ∧ S[i + 1]? = some [] ∧ 1 ≤ x.n ∧ x.n ≤ 16)
theorem good_other {S : List Bytes} {x : In} (h3 : x.op ≠ 3) (h4 : x.op ≠ 4) (h12 : x.op ≠ 12) : GoodI S x := ⟨fun h => by rcases h with h | h | h <;> contradiction, fun h => absurd h h12⟩
theorem good_slot {S : List Bytes} {o i : Int} (h12 : o ≠ 12) (h : 0 ≤ i ∧ i < (S.length : Nat)) : GoodI S (one o i) := ⟨fun _ => h, fun h => absurd h h12⟩
mutual
theorem codeM_good (S l : List Bytes) (hl : ∀ w, hasS l w = true → w ∈ S) : ∀ (e : E) (d : Int), chkE e d = 0 → knE l e = true → ∀ x ∈ codeM S e, GoodI S x
  | .mk op n s args, d, h, hk => by
    obtain ⟨h1, h2⟩ := chkE_parts h
    rw [codeM]
    rw [knE] at hk
    by_cases c1 : decide (op = 1) = true
    · rw [if_pos c1]
      intro x hx
      simp at hx
      subst hx
      exact good_other (by show (1 : Int) ≠ 3; decide) (by show (1 : Int) ≠ 4; decide) (by show (1 : Int) ≠ 12; decide)
    rw [if_neg c1]
    by_cases c2 : decide (op = 2) = true
    · rw [if_pos c2]
      intro x hx
      simp at hx
      subst hx
      exact good_other (by show (2 : Int) ≠ 3; decide) (by show (2 : Int) ≠ 4; decide) (by show (2 : Int) ≠ 12; decide)
    rw [if_neg c2]
    by_cases c3 : decide (op = 3) = true
    · rw [if_pos c3]
      have o3 : op = 3 := by simpa using c3
      subst o3
      have hs := node_name h1
      have hi : idxM S s = slotN S s := by unfold idxM; rw [hs, if_neg (by decide)]
      have hh : hasS l s = true := by
        cases hq : hasS l s with
        | true => rfl
        | false => rw [hq] at hk; simp at hk
      have hb := slotN_lt (hl s hh)
      intro x hx
      rw [List.mem_singleton] at hx
      subst hx
      refine good_slot (by decide) ?_
      rw [hi]
      split <;> omega
    · rw [if_neg c3]
      have c3' : decide (op = 3) = false := by simpa using c3
      rw [c3', Bool.false_and, if_neg (by decide)] at hk
      intro x hx
      rcases List.mem_append.1 hx with hx | hx
      · exact codeMs_good S l hl args _ h2 hk x hx
      · rw [List.mem_singleton] at hx
        subst hx
        exact good_other (by show (5 : Int) ≠ 3; decide) (by show (5 : Int) ≠ 4; decide) (by show (5 : Int) ≠ 12; decide)
theorem codeMs_good (S l : List Bytes) (hl : ∀ w, hasS l w = true → w ∈ S) : ∀ (m : List E) (d : Int), chkL m d = 0 → knL l m = true → ∀ x ∈ codeMs S m, GoodI S x
  | [], d, h, hk => by intro x hx; rw [codeMs] at hx; cases hx
  | y :: m, d, h, hk => by
    obtain ⟨h1, h2⟩ := chkL_parts h
    rw [knL, Bool.and_eq_true] at hk
    intro x hx
    rw [codeMs] at hx
    rcases List.mem_append.1 hx with hx | hx
    · exact codeM_good S l hl y d h1 hk.1 x hx
    · exact codeMs_good S l hl m d h2 hk.2 x hx
end
mutual
theorem cdS_good (S : List Bytes) : ∀ (x : Stm) (vars : List Pm) (loops : List Bytes) (d : Int) (k : Nat), (∀ y j, Vis.s y j ∈ visS x d → stmtS y j = 0) → stR vars loops x = 0 →
    (∀ w, hasS (vars.map Pm.name) w = true → w ∈ S) → (∀ y j, Vis.s y j ∈ visS x d → (y.op = 1 ∨ y.op = 6) → y.name ∈ S) →
    (∀ y j, Vis.s y j ∈ visS x d → y.op = 6 → ∃ pre suf, S = pre ++ y.name :: [] :: suf ∧ y.name ∉ pre) → ∀ i ∈ cdS S x k, GoodI S i
  | .mk op name max a b body els, vars, loops, d, k, hv, h0, hw, hd, hl => by
    have hs := stmtS_zero (hv _ d (vis_self _ d))
    have hmx := maxOf (hv _ d (vis_self _ d))
    obtain ⟨ka, kb, k2, kB, kE⟩ := stR_facts hs h0
    have hvb : ∀ y j, Vis.s y j ∈ visSs body (IntKind.i64.wrap (d + 1)) → stmtS y j = 0 := fun y j hy => hv y j (vis_body _ hy)
    have hve : ∀ y j, Vis.s y j ∈ visSs els (IntKind.i64.wrap (d + 1)) → stmtS y j = 0 := fun y j hy => hv y j (vis_els _ hy)
    have hdb : ∀ y j, Vis.s y j ∈ visSs body (IntKind.i64.wrap (d + 1)) → (y.op = 1 ∨ y.op = 6) → y.name ∈ S := fun y j hy => hd y j (vis_body _ hy)
    have hde : ∀ y j, Vis.s y j ∈ visSs els (IntKind.i64.wrap (d + 1)) → (y.op = 1 ∨ y.op = 6) → y.name ∈ S := fun y j hy => hd y j (vis_els _ hy)
    have hlb : ∀ y j, Vis.s y j ∈ visSs body (IntKind.i64.wrap (d + 1)) → y.op = 6 → ∃ pre suf, S = pre ++ y.name :: [] :: suf ∧ y.name ∉ pre := fun y j hy => hl y j (vis_body _ hy)
    have hle : ∀ y j, Vis.s y j ∈ visSs els (IntKind.i64.wrap (d + 1)) → y.op = 6 → ∃ pre suf, S = pre ++ y.name :: [] :: suf ∧ y.name ∉ pre := fun y j hy => hl y j (vis_els _ hy)
    have hds := hd _ d (vis_self _ d)
    have hls := hl _ d (vis_self _ d)
    have hop := hs.op
    have hnm := hs.name
    have hca := hs.a
    have hcb := hs.b
    have fb := cdL_good S body
    have fe := cdL_good S els
    simp only [Stm.a, Stm.b, Stm.op, Stm.name, Stm.body, Stm.els, Stm.max] at *
    have ho : op = 1 ∨ op = 2 ∨ op = 3 ∨ op = 4 ∨ op = 5 ∨ op = 6 ∨ op = 7 ∨ op = 8 := by omega
    have tick : GoodI S (one 14 0) := good_other (by decide) (by decide) (by decide)
    rw [cdS_mk]
    rcases ho with rfl | rfl | rfl | rfl | rfl | rfl | rfl | rfl
    · have ga := codeM_good S _ hw a 1 (hca rfl) ka
      have hb := slotN_lt (hds (.inl rfl))
      rw [idx_same (hnm rfl)]
      intro i hi
      change i ∈ one 14 0 :: (codeM S a ++ [one 4 (slotN S name)]) at hi
      rcases List.mem_cons.1 hi with rfl | hi
      · exact tick
      rcases List.mem_append.1 hi with hi | hi
      · exact ga i hi
      rw [List.mem_singleton] at hi
      subst hi
      exact good_slot (by decide) hb
    · have ga := codeM_good S _ hw a 1 (hca rfl) ka
      have hb := slotN_lt (hw _ (k2 rfl).1)
      rw [idx_same (hnm rfl)]
      intro i hi
      change i ∈ one 14 0 :: (codeM S a ++ [one 4 (slotN S name)]) at hi
      rcases List.mem_cons.1 hi with rfl | hi
      · exact tick
      rcases List.mem_append.1 hi with hi | hi
      · exact ga i hi
      rw [List.mem_singleton] at hi
      subst hi
      exact good_slot (by decide) hb
    · have ga := codeM_good S _ hw a 1 (hca rfl) ka
      have gb := codeM_good S _ hw b 1 (hcb rfl) kb
      intro i hi
      change i ∈ one 14 0 :: (codeM S a ++ (codeM S b ++ [one 8 0])) at hi
      rcases List.mem_cons.1 hi with rfl | hi
      · exact tick
      rcases List.mem_append.1 hi with hi | hi
      · exact ga i hi
      rcases List.mem_append.1 hi with hi | hi
      · exact gb i hi
      rw [List.mem_singleton] at hi
      subst hi
      exact good_other (by decide) (by decide) (by decide)
    · have ga := codeM_good S _ hw a 1 (hca rfl) ka
      intro i hi
      change i ∈ one 14 0 :: (codeM S a ++ [one 9 0]) at hi
      rcases List.mem_cons.1 hi with rfl | hi
      · exact tick
      rcases List.mem_append.1 hi with hi | hi
      · exact ga i hi
      rw [List.mem_singleton] at hi
      subst hi
      exact good_other (by decide) (by decide) (by decide)
    · have ga := codeM_good S _ hw a 1 (hca rfl) ka
      have gb := fun j => fb vars loops _ j hvb (by simpa using kB) hw hdb hlb
      have ge := fun j => fe vars loops _ j hve kE hw hde hle
      intro i hi
      change i ∈ one 14 0 :: (codeM S a ++ brM (fun j => cdL S body j) (fun j => cdL S els j) (decide ((els.length : Int) = 0)) (k + 1 + (codeM S a).length)) at hi
      rcases List.mem_cons.1 hi with rfl | hi
      · exact tick
      rcases List.mem_append.1 hi with hi | hi
      · exact ga i hi
      unfold brM at hi
      dsimp only at hi
      split at hi
      · rcases List.mem_cons.1 hi with rfl | hi
        · exact good_other (by show (7 : Int) ≠ 3; decide) (by show (7 : Int) ≠ 4; decide) (by show (7 : Int) ≠ 12; decide)
        · exact gb _ i hi
      · rcases List.mem_cons.1 hi with rfl | hi
        · exact good_other (by show (7 : Int) ≠ 3; decide) (by show (7 : Int) ≠ 4; decide) (by show (7 : Int) ≠ 12; decide)
        rcases List.mem_append.1 hi with hi | hi
        · exact gb _ i hi
        rcases List.mem_cons.1 hi with rfl | hi
        · exact good_other (by show (6 : Int) ≠ 3; decide) (by show (6 : Int) ≠ 4; decide) (by show (6 : Int) ≠ 12; decide)
        · exact ge _ i hi
    · have ga := codeM_good S _ hw a 1 (hca rfl) ka
      have gb := codeM_good S _ hw b 1 (hcb rfl) kb
      have hn6 := hds (.inr rfl)
      have gB := fun j => fb (vars ++ [⟨name, 1⟩]) (loops ++ [name]) _ j hvb (by simpa using kB)
        (fun w hh => by rw [List.map_append, List.map_cons, List.map_nil] at hh; rcases hasS_app hh with h | h; exact hw w h; rw [h]; exact hn6) hdb hlb
      obtain ⟨m1, m2⟩ := hmx rfl
      obtain ⟨pre, suf, e1, e2⟩ := hls rfl
      have sN := slotN_at e1 e2
      have sl : S.length = pre.length + (suf.length + 2) := by rw [e1]; simp
      have nn : name ≠ [] := by have := hnm rfl; rintro rfl; simp [Go.Proofs.YtjmghomnbmbjnaaGreat.isName] at this
      have i0 : 0 ≤ slotN S name ∧ slotN S name < (S.length : Nat) := by rw [sN]; omega
      have i1 : 0 ≤ slotN S name + 1 ∧ slotN S name + 1 < (S.length : Nat) := by rw [sN]; omega
      rw [idx_same (hnm rfl)]
      intro i hi
      change i ∈ one 14 0 :: (codeM S a ++ lpM (fun j => cdL S body j) (codeM S b) (slotN S name) max (k + 1 + (codeM S a).length)) at hi
      rcases List.mem_cons.1 hi with rfl | hi
      · exact tick
      rcases List.mem_append.1 hi with hi | hi
      · exact ga i hi
      unfold lpM lpHead lpTest lpNext at hi
      dsimp only at hi
      simp only [List.mem_append, List.mem_cons, List.not_mem_nil, or_false] at hi
      have n7 : ∀ v, GoodI S (one 7 v) := fun v => good_other (by show (7 : Int) ≠ 3; decide) (by show (7 : Int) ≠ 4; decide) (by show (7 : Int) ≠ 12; decide)
      have n6 : ∀ v, GoodI S (one 6 v) := fun v => good_other (by show (6 : Int) ≠ 3; decide) (by show (6 : Int) ≠ 4; decide) (by show (6 : Int) ≠ 12; decide)
      have n5 : ∀ v, GoodI S (one 5 v) := fun v => good_other (by show (5 : Int) ≠ 3; decide) (by show (5 : Int) ≠ 4; decide) (by show (5 : Int) ≠ 12; decide)
      rcases hi with (rfl | hi | rfl | rfl) | (rfl | rfl | rfl) | rfl | rfl | hi | rfl | rfl | rfl | rfl | rfl
      · exact good_slot (by decide) i0
      · exact gb i hi
      · exact good_slot (by decide) i1
      · refine ⟨fun _ => i0, fun _ => ⟨pre.length, sN, by show slotN S name + 1 = _; rw [sN]; rfl, by omega, ⟨name, by rw [e1]; simp, nn⟩, ?_, m1, m2⟩⟩
        rw [e1, List.getElem?_append_right (by omega), show pre.length + 1 - pre.length = 1 by omega]
        rfl
      · exact good_slot (by decide) i0
      · exact good_slot (by decide) i1
      · exact n5 _
      · exact n7 _
      · exact tick
      · exact gB _ i hi
      · exact good_slot (by decide) i0
      · exact good_other (by decide) (by decide) (by decide)
      · exact n5 _
      · exact good_slot (by decide) i0
      · exact n6 _
    · have ga := codeM_good S _ hw a 1 (hca rfl) ka
      intro i hi
      change i ∈ one 14 0 :: (codeM S a ++ [one 10 0]) at hi
      rcases List.mem_cons.1 hi with rfl | hi
      · exact tick
      rcases List.mem_append.1 hi with hi | hi
      · exact ga i hi
      rw [List.mem_singleton] at hi
      subst hi
      exact good_other (by decide) (by decide) (by decide)
    · intro i hi
      change i ∈ one 14 0 :: [one 11 max] at hi
      rcases List.mem_cons.1 hi with rfl | hi
      · exact tick
      rw [List.mem_singleton] at hi
      subst hi
      exact good_other (by show (11 : Int) ≠ 3; decide) (by show (11 : Int) ≠ 4; decide) (by show (11 : Int) ≠ 12; decide)
theorem cdL_good (S : List Bytes) : ∀ (l : List Stm) (vars : List Pm) (loops : List Bytes) (d : Int) (k : Nat), (∀ y j, Vis.s y j ∈ visSs l d → stmtS y j = 0) → bdR vars loops l = 0 →
    (∀ w, hasS (vars.map Pm.name) w = true → w ∈ S) → (∀ y j, Vis.s y j ∈ visSs l d → (y.op = 1 ∨ y.op = 6) → y.name ∈ S) →
    (∀ y j, Vis.s y j ∈ visSs l d → y.op = 6 → ∃ pre suf, S = pre ++ y.name :: [] :: suf ∧ y.name ∉ pre) → ∀ i ∈ cdL S l k, GoodI S i
  | [], vars, loops, d, k, hv, h0, hw, hd, hl => by intro i hi; rw [cdL] at hi; cases hi
  | x :: l, vars, loops, d, k, hv, h0, hw, hd, hl => by
    rw [bdR_cons] at h0
    have hx : stR vars loops x = 0 := by
      apply Classical.byContradiction
      intro hc
      rw [if_neg (by simpa using hc)] at h0
      exact hc h0
    rw [if_pos (by simpa using hx)] at h0
    rw [visSs] at hv hd hl
    have g1 := cdS_good S x vars loops d k (fun y j hy => hv y j (List.mem_append_left _ hy)) hx hw (fun y j hy => hd y j (List.mem_append_left _ hy)) (fun y j hy => hl y j (List.mem_append_left _ hy))
    have hnx := hd x d (List.mem_append_left _ (vis_self x d))
    have g2 := cdL_good S l _ loops d (k + (cdS S x k).length) (fun y j hy => hv y j (List.mem_append_right _ hy)) h0 (by
      intro w hh
      by_cases h1 : decide (x.op = 1) = true
      · rw [if_pos h1, List.map_append, List.map_cons, List.map_nil] at hh
        rcases hasS_app hh with h | h
        · exact hw w h
        · rw [h]; exact hnx (.inl (by simpa using h1))
      · rw [if_neg h1] at hh
        exact hw w hh) (fun y j hy => hd y j (List.mem_append_right _ hy)) (fun y j hy => hl y j (List.mem_append_right _ hy))
    intro i hi
    rw [cdL_cons] at hi
    rcases List.mem_append.1 hi with hi | hi
    · exact g1 i hi
    · exact g2 i hi
end
theorem slots_flat {p : Pr} (hc : chkS p = 0) : slotsS p = (namesS p).flatMap (dbl (lpL p.body)) := by
  obtain ⟨V, hbl, hd, h0, hk⟩ := chk_zero hc
  unfold slotsS
  rw [if_pos (by simpa using hc), ← slots_eq hc, ← allV_names V, List.flatMap_map]
theorem names_of {x : Stm} {d : Int} (ho : x.op = 1 ∨ x.op = 6) : ∀ l : List Vis, Vis.s x d ∈ l → x.name ∈ namesV l
  | [], h => by cases h
  | .s y k :: l, h => by
    simp only [namesV]
    rcases List.mem_cons.1 h with h | h
    · injection h with h1 h2
      subst h1
      rw [if_pos (by rcases ho with ho | ho <;> simp [ho])]
      simp
    · have := names_of ho l h
      split
      · exact List.mem_cons_of_mem _ this
      · exact this
  | .e y k :: l, h => by
    rcases List.mem_cons.1 h with h | h
    · cases h
    · exact names_of ho l h
theorem cd_good {p : Pr} (hc : chkS p = 0) (k : Nat) : ∀ i ∈ cdL (slotsS p) p.body k, GoodI (slotsS p) i := by
  obtain ⟨V, hbl, hd, h0, hk⟩ := chk_zero hc
  have hbr : bdR p.params [] p.body = 0 := by rw [← (ck_link V hd).1]; exact hk
  have hss : slotsS p = paramNames p ++ slV (visP p) := by unfold slotsS; rw [if_pos (by simpa using hc)]
  refine cdL_good (slotsS p) p.body p.params [] 1 k V.stm hbr (fun w hw => ?_) (fun y j hy ho => ?_) (fun y j hy ho => ?_)
  · rw [hss]; exact List.mem_append_left _ (hasS_mem hw)
  · rw [hss]; exact List.mem_append_right _ (mem_slV _ y j (by rw [V.vis]; exact hy) ho)
  · rw [slots_flat hc]
    have hL : hasN (lpL p.body) y.name = true := by
      rw [← lpV_L p.body 1]
      exact hasN_memC.2 (lpV_mem ho _ hy)
    have hnm : y.name ≠ [] := by
      have := (stmtS_zero (V.stm y j hy)).name (by rw [ho]; rfl)
      intro e
      rw [e] at this
      simp [Go.Proofs.YtjmghomnbmbjnaaGreat.isName] at this
    refine dbl_dec hL hnm ?_
    unfold namesS
    refine List.mem_append_right _ (names_of (.inr ho) _ (?_ : Vis.s y j ∈ _))
    rw [V.vis]
    exact hy
def nes (l : List Bytes) : List Bytes := l.filter fun s => !(s == [])
theorem nes_dbl (L : List Bytes) : ∀ l : List Bytes, (∀ s ∈ l, s ≠ []) → nes (l.flatMap (dbl L)) = l
  | [], _ => rfl
  | x :: l, h => by
    have ih := nes_dbl L l fun s hs => h s (List.mem_cons_of_mem _ hs)
    have hx : x ≠ [] := h x (by simp)
    unfold nes at ih ⊢
    rw [List.flatMap_cons, List.filter_append, ih]
    unfold dbl
    split <;> simp [hx]
end Go.Proofs.YtjmghomnbmbjnaaGreat
set_option linter.all false
namespace Go.Proofs.YtjmghomnbmbjnaaGreat
open Go.Abs
-- CTX D
attribute [local congr] ite_congr
set_option maxRecDepth 10000
theorem nes_append (l m : List Bytes) : nes (l ++ m) = nes l ++ nes m := by unfold nes; rw [List.filter_append]
theorem nes_le (l : List Bytes) : (nes l).length ≤ l.length := List.length_filter_le _ _
theorem namesV_ok4 : ∀ (l : List Vis), (∀ x d, Vis.s x d ∈ l → StmOk x d) → ∀ s ∈ namesV l, isName s = true
  | [], _, s, hs => by simp [namesV] at hs
  | .e x r :: l, h, s, hs => namesV_ok4 l (fun x d hm => h x d (List.mem_cons_of_mem _ hm)) s hs
  | .s x d :: l, h, s, hs => by
    have ih := namesV_ok4 l fun x d hm => h x d (List.mem_cons_of_mem _ hm)
    simp only [namesV] at hs
    by_cases hx : (decide (x.op = 1) || decide (x.op = 6)) = true
    · rw [if_pos hx] at hs
      rcases List.mem_cons.1 hs with rfl | hs
      · refine (h x d (by simp)).name ?_
        unfold uN
        rcases (Bool.or_eq_true _ _).mp hx with h | h <;> simp [h]
      · exact ih s hs
    · rw [if_neg hx] at hs
      exact ih s hs
set_option maxHeartbeats 8000000 in
theorem lawCompileLoads (p : Pr) (hp : p.Ok) : acl D 6 [Pr.av p] A00 = some (.d (.bool true), A00) := by
  have sm := up (small p hp 1600 A00)
  have w := works
  rw [k_call (c := D) (f := 6) rfl Tryz.func6 rfl (ok 6 (by kernel_rfl)) rfl Tryz.ntmps6 Tryz.results6 (by simp)]
  cases hs : smallS p 1600 with
  | false => simp (maxSteps := 1000000) only [go_sem, acondK_bool, acB_merge, Nat.reduceLT, Nat.reduceLeDiff, Nat.reduceEqDiff, Nat.reduceAdd, Nat.reduceSub, Nat.reduceMul, Nat.reduceBEq, Nat.reduceBNe, Nat.reduceBneDiff, Nat.reduceBeqDiff, Int.reduceToNat, Int.reduceLE, Int.reduceLT, Int.reduceEq, Int.reduceNe, Int.reduceNeg, Int.reduceAdd, Int.reduceSub, ↓reduceIte, reduceCtorEq, k_drawn_q, sm, w, hs]
  | true =>
  have h40 := small40 hs
  have o1 := procOf p hp h40 A00
  unfold codeAv at o1
  by_cases hE : prE p = 0
  case neg =>
    have hE' : decide (prE p = 0) = false := by simpa using hE
    generalize prE p = k at *
    simp (maxSteps := 1000000) only [go_sem, acondK_bool, acB_merge, Nat.reduceLT, Nat.reduceLeDiff, Nat.reduceEqDiff, Nat.reduceAdd, Nat.reduceSub, Nat.reduceMul, Nat.reduceBEq, Nat.reduceBNe, Nat.reduceBneDiff, Nat.reduceBeqDiff, Int.reduceToNat, Int.reduceLE, Int.reduceLT, Int.reduceEq, Int.reduceNe, Int.reduceNeg, Int.reduceAdd, Int.reduceSub, ↓reduceIte, reduceCtorEq, k_drawn_q, sm, w, hs, o1, hE']
  have hE' : decide (prE p = 0) = true := by simpa using hE
  have hc : costC p = 0 := by
    apply Classical.byContradiction
    intro h
    unfold prE at hE
    rw [if_neg h] at hE
    exact h hE
  have h64 : ¬ (64 < ((slotsS p).length : Int)) := by
    intro h
    unfold prE at hE
    rw [if_pos hc, if_pos h] at hE
    cases hE
  have hk := det_chk (cost_det hc)
  obtain ⟨V, hbl, hd, h0, hck⟩ := chk_zero hk
  have hN : prN p = ((slotsS p).length : Nat) := by unfold prN; rw [if_pos hc, if_neg h64]
  have hI : prI p = cdL (slotsS p) p.body 0 ++ [one 13 0] := by unfold prI cdP; rw [if_pos hc, if_neg h64]
  rw [hN, hI, hE] at o1
  have hcl := cdL_len (slotsS p) p.body 0
  have hln := lnL_vld V
  have hgood : ∀ x ∈ cdL (slotsS p) p.body 0 ++ [one 13 0], GoodI (slotsS p) x := by
    intro x hx
    rcases List.mem_append.1 hx with hx | hx
    · exact cd_good hk 0 x hx
    · rw [List.mem_singleton] at hx
      subst hx
      exact good_other (by decide) (by decide) (by decide)
  have hIl : (cdL (slotsS p) p.body 0 ++ [one 13 0]).length ≤ 6401 := by simp; omega
  have s1 := fun B => up (slotsP p hp h40 B)
  have v1 := fun B => up (varsR p hp h40 B)
  have vv : varsS p = allV p := by unfold varsS; rw [if_pos (by simpa using hk)]
  rw [vv] at v1
  have hnes : nes (slotsS p) = (allV p).map Pm.name := by
    rw [allV_names V, slots_flat hk]
    refine nes_dbl _ _ fun s hs => ?_
    unfold namesS at hs
    rcases List.mem_append.1 hs with hs | hs
    · obtain ⟨x, hx, rfl⟩ := List.mem_map.1 hs
      have := (((prmS_zero3 _).1 V.prm).2.1 x hx).1
      intro e
      rw [e] at this
      simp [Go.Proofs.YtjmghomnbmbjnaaGreat.isName] at this
    · obtain hh := namesV_ok4 (visP p) (fun x d hm => stmtS_zero (V.stm x d (by rw [← V.vis]; exact hm))) s hs
      intro e
      rw [e] at hh
      simp [Go.Proofs.YtjmghomnbmbjnaaGreat.isName] at hh
  generalize allV p = T at *
  generalize cdL (slotsS p) p.body 0 ++ [one 13 0] = I at *
  have hSl := slots_len p h40
  generalize slotsS p = S at *
  have q0 : decide (((S.length : Nat) : Int) = ((S.length : Nat) : Int)) = true := by simp
  simp (maxSteps := 1000000) only [go_sem, acondK_bool, acB_merge, Nat.reduceLT, Nat.reduceLeDiff, Nat.reduceEqDiff, Nat.reduceAdd, Nat.reduceSub, Nat.reduceMul, Nat.reduceBEq, Nat.reduceBNe, Nat.reduceBneDiff, Nat.reduceBeqDiff, Int.reduceToNat, Int.reduceLE, Int.reduceLT, Int.reduceEq, Int.reduceNe, Int.reduceNeg, Int.reduceAdd, Int.reduceSub, ↓reduceIte, reduceCtorEq, k_drawn_q, sm, w, hs, o1, hE', s1, v1, q0]
  refine loop_any (fun pre => [(3, .box [.d (.slice ((prT p).map iRow)), .d (.int .i64 (S.length : Nat)), .d (.slice (I.map In.row))]), (6, .v (.d (.slice (T.map Pm.row)))), (5, .v (.d (.slice (S.map sRow)))), (8, .v (.d (.int .i64 (pre.length : Nat)))), (7, .v (.d (.int .i64 ((nes pre).length : Nat))))])
    (fun _ => A00) (fun _ _ => some (.d (.bool true), A00)) S rfl rfl rfl ?_
  intro pre suf h ih
  have hb : pre.length < 9223372036854775807 := by rw [h] at hSl; simp at hSl; omega
  cases suf with
  | cons x suf =>
    have e2 := ih x suf rfl
    rw [List.length_append, List.length_cons, List.length_nil, nes_append, List.length_append] at e2
    have e3 : (S.map sRow)[pre.length]? = some [.str x] := by rw [h]; exact map_mid
    have e4 : decide ((pre.length : Int) < (S.length : Int)) = true := by rw [h]; simp; omega
    have hn := nes_le pre
    have hb2 : (nes pre).length < 9223372036854775807 := by omega
    cases hx : (x == []) with
    | true =>
      have : nes [x] = [] := by unfold nes; rw [List.filter_cons, hx]; rfl
      rw [this, List.length_nil, Nat.add_zero (nes pre).length] at e2
      simp (maxSteps := 1000000) only [go_sem, acondK_bool, acB_merge, Nat.reduceLT, Nat.reduceLeDiff, Nat.reduceEqDiff, Nat.reduceAdd, Nat.reduceSub, Nat.reduceMul, Nat.reduceBEq, Nat.reduceBNe, Nat.reduceBneDiff, Nat.reduceBeqDiff, Int.reduceToNat, Int.reduceLE, Int.reduceLT, Int.reduceEq, Int.reduceNe, Int.reduceNeg, Int.reduceAdd, Int.reduceSub, ↓reduceIte, reduceCtorEq, e3, e4, hx, e2, wrap_nat hb]
    | false =>
      have : nes [x] = [x] := by unfold nes; rw [List.filter_cons, hx]; rfl
      have e9 := hnes
      rw [h, show pre ++ x :: suf = pre ++ ([x] ++ suf) from rfl, nes_append, nes_append, this] at e9
      have e5 : (T.map Pm.name)[(nes pre).length]? = some x := by rw [← e9]; simp
      rw [List.getElem?_map] at e5
      obtain ⟨t, ht, htn⟩ : ∃ t, T[(nes pre).length]? = some t ∧ t.name = x := by
        cases hq : T[(nes pre).length]? with
        | none => rw [hq] at e5; cases e5
        | some t => rw [hq] at e5; exact ⟨t, rfl, by simpa using e5⟩
      have e6 : (T.map Pm.row)[(nes pre).length]? = some [.str x, .int .i64 t.type] := by rw [List.getElem?_map, ht, ← htn]; rfl
      have e7 : decide (((T.length : Nat) : Int) ≤ (((nes pre).length : Nat) : Int)) = false := by
        have := List.getElem?_eq_some_iff.1 ht
        obtain ⟨h1, _⟩ := this
        simp; omega
      have e8 : (x == x) = true := by simp
      rw [this, List.length_cons, List.length_nil] at e2
      generalize (nes pre).length = m at *
      simp (maxSteps := 1000000) only [go_sem, acondK_bool, acB_merge, Nat.reduceLT, Nat.reduceLeDiff, Nat.reduceEqDiff, Nat.reduceAdd, Nat.reduceSub, Nat.reduceMul, Nat.reduceBEq, Nat.reduceBNe, Nat.reduceBneDiff, Nat.reduceBeqDiff, Int.reduceToNat, Int.reduceLE, Int.reduceLT, Int.reduceEq, Int.reduceNe, Int.reduceNeg, Int.reduceAdd, Int.reduceSub, ↓reduceIte, reduceCtorEq, k_drawn_q, e3, e4, hx, e6, e7, e8, e2, wrap_nat hb, wrap_nat hb2]
  | nil =>
    rw [List.append_nil] at h
    have e4 : decide ((pre.length : Int) < (S.length : Int)) = false := by rw [h]; simp
    rw [← h, hnes, List.length_map]
    simp (maxSteps := 1000000) only [go_sem, acondK_bool, acB_merge, Nat.reduceLT, Nat.reduceLeDiff, Nat.reduceEqDiff, Nat.reduceAdd, Nat.reduceSub, Nat.reduceMul, Nat.reduceBEq, Nat.reduceBNe, Nat.reduceBneDiff, Nat.reduceBeqDiff, Int.reduceToNat, Int.reduceLE, Int.reduceLT, Int.reduceEq, Int.reduceNe, Int.reduceNeg, Int.reduceAdd, Int.reduceSub, ↓reduceIte, reduceCtorEq, e4]
    refine loop_any (fun pre => [(9, .v (.d (.int .i64 (pre.length : Nat)))), (5, .v (.d (.slice (S.map sRow)))), (3, .box [.d (.slice ((prT p).map iRow)), .d (.int .i64 (S.length : Nat)), .d (.slice (I.map In.row))]), (7, .v (.d (.int .i64 (T.length : Nat)))), (6, .v (.d (.slice (T.map Pm.row))))])
      (fun _ => A00) (fun _ _ => some (.d (.bool true), A00)) I rfl rfl rfl ?_
    intro pre2 suf2 h2 ih2
    have hb : pre2.length < 9223372036854775807 := by rw [h2] at hIl; simp at hIl; omega
    cases suf2 with
    | nil =>
      rw [List.append_nil] at h2
      have e4 : decide ((pre2.length : Int) < (I.length : Int)) = false := by rw [h2]; simp
      have e5 : decide (((T.length : Nat) : Int) = ((T.length : Nat) : Int)) = true := by simp
      simp (maxSteps := 1000000) only [go_sem, acondK_bool, acB_merge, Nat.reduceLT, Nat.reduceLeDiff, Nat.reduceEqDiff, Nat.reduceAdd, Nat.reduceSub, Nat.reduceMul, Nat.reduceBEq, Nat.reduceBNe, Nat.reduceBneDiff, Nat.reduceBeqDiff, Int.reduceToNat, Int.reduceLE, Int.reduceLT, Int.reduceEq, Int.reduceNe, Int.reduceNeg, Int.reduceAdd, Int.reduceSub, ↓reduceIte, reduceCtorEq, e4, e5, w]
    | cons x suf =>
      have e2 := ih2 x suf rfl
      rw [List.length_append, List.length_cons, List.length_nil] at e2
      have e3 : (I.map In.row)[pre2.length]? = some [.int .i64 x.op, .int .i64 x.a, .int .i64 x.b, .int .i64 x.n, .str x.s] := by rw [h2]; exact map_mid
      have e4 : decide ((pre2.length : Int) < (I.length : Int)) = true := by rw [h2]; simp; omega
      obtain ⟨g1, g2⟩ := hgood x (by rw [h2]; simp)
      cases d12 : decide (x.op = 12) with
      | true =>
        have o12 : x.op = 12 := by simpa using d12
        have d3 : decide (x.op = 3) = false := by simp [o12]
        have d4 : decide (x.op = 4) = false := by simp [o12]
        obtain ⟨i, a1, b1, hlt, ⟨w0, hw0, hw1⟩, hz, n1, n2⟩ := g2 o12
        have c1 : decide (((i : Nat) : Int) < 0) = false := by simp
        have c2 : decide (((S.length : Nat) : Int) ≤ ((i : Nat) : Int)) = false := by simp; omega
        have c3 : IntKind.i64.wrap (((i : Nat) : Int) + 1) = ((i + 1 : Nat) : Int) := by rw [wrap_in] <;> omega
        have c4 : decide ((((i + 1 : Nat)) : Int) = ((i + 1 : Nat) : Int)) = true := by simp
        have c5 : decide (((S.length : Nat) : Int) ≤ ((i + 1 : Nat) : Int)) = false := by simp; omega
        have c6 : (S.map sRow)[i]? = some [.str w0] := by rw [List.getElem?_map, hw0]; rfl
        have c7 : (S.map sRow)[i + 1]? = some [.str []] := by rw [List.getElem?_map, hz]; rfl
        have c8 : (w0 == []) = false := by simpa using hw1
        have c9 : (([] : Bytes) == []) = true := by simp
        have c10 : decide (x.n < 1) = false := by simp; omega
        have c11 : decide (16 < x.n) = false := by simp; omega
        rw [a1, b1] at e3
        simp (maxSteps := 1000000) only [go_sem, acondK_bool, acB_merge, Nat.reduceLT, Nat.reduceLeDiff, Nat.reduceEqDiff, Nat.reduceAdd, Nat.reduceSub, Nat.reduceMul, Nat.reduceBEq, Nat.reduceBNe, Nat.reduceBneDiff, Nat.reduceBeqDiff, Int.reduceToNat, Int.reduceLE, Int.reduceLT, Int.reduceEq, Int.reduceNe, Int.reduceNeg, Int.reduceAdd, Int.reduceSub, ↓reduceIte, reduceCtorEq, e3, e4, d3, d4, d12, c1, c2, c3, c4, c5, c6, c7, c8, c9, c10, c11, e2, wrap_nat hb]
      | false =>
        cases d34 : (decide (x.op = 3) || decide (x.op = 4)) with
        | true =>
          have o34 : x.op = 3 ∨ x.op = 4 := by simpa using d34
          obtain ⟨a1, a2⟩ := g1 (by rcases o34 with o | o; exact .inl o; exact .inr (.inl o))
          have c1 : decide (x.a < 0) = false := by simp; omega
          have c2 : decide (((S.length : Nat) : Int) ≤ x.a) = false := by simp; omega
          rcases o34 with o | o
          · have d3 : decide (x.op = 3) = true := by simp [o]
            simp (maxSteps := 1000000) only [go_sem, acondK_bool, acB_merge, Nat.reduceLT, Nat.reduceLeDiff, Nat.reduceEqDiff, Nat.reduceAdd, Nat.reduceSub, Nat.reduceMul, Nat.reduceBEq, Nat.reduceBNe, Nat.reduceBneDiff, Nat.reduceBeqDiff, Int.reduceToNat, Int.reduceLE, Int.reduceLT, Int.reduceEq, Int.reduceNe, Int.reduceNeg, Int.reduceAdd, Int.reduceSub, ↓reduceIte, reduceCtorEq, e3, e4, d3, d12, c1, c2, e2, wrap_nat hb]
          · have d3 : decide (x.op = 3) = false := by simp [o]
            have d4 : decide (x.op = 4) = true := by simp [o]
            simp (maxSteps := 1000000) only [go_sem, acondK_bool, acB_merge, Nat.reduceLT, Nat.reduceLeDiff, Nat.reduceEqDiff, Nat.reduceAdd, Nat.reduceSub, Nat.reduceMul, Nat.reduceBEq, Nat.reduceBNe, Nat.reduceBneDiff, Nat.reduceBeqDiff, Int.reduceToNat, Int.reduceLE, Int.reduceLT, Int.reduceEq, Int.reduceNe, Int.reduceNeg, Int.reduceAdd, Int.reduceSub, ↓reduceIte, reduceCtorEq, e3, e4, d3, d4, d12, c1, c2, e2, wrap_nat hb]
        | false =>
          rw [Bool.or_eq_false_iff] at d34
          obtain ⟨d3, d4⟩ := d34
          simp (maxSteps := 1000000) only [go_sem, acondK_bool, acB_merge, Nat.reduceLT, Nat.reduceLeDiff, Nat.reduceEqDiff, Nat.reduceAdd, Nat.reduceSub, Nat.reduceMul, Nat.reduceBEq, Nat.reduceBNe, Nat.reduceBneDiff, Nat.reduceBeqDiff, Int.reduceToNat, Int.reduceLE, Int.reduceLT, Int.reduceEq, Int.reduceNe, Int.reduceNeg, Int.reduceAdd, Int.reduceSub, ↓reduceIte, reduceCtorEq, e3, e4, d3, d4, d12, e2, wrap_nat hb]
end Go.Proofs.YtjmghomnbmbjnaaGreat
