/- Renaming a variable to a fresh name commutes with the analysis: the plain part. -/
import Derived.Test.YtdcmimpjmngdlaaSeatS
import Derived.Test.YtdcmimpjmngdlaaSeatT
set_option linter.unusedVariables false
set_option linter.unusedSimpArgs false
set_option linter.all false
set_option linter.deprecated false
set_option linter.all false
namespace Go.Proofs.Ytdcmimpjmngdlaa
open Go.Abs
section
variable {a b : Bytes} (ha : isName a = true) (hb : isName b = true)
include ha hb
theorem beq_ren {s t : Bytes} (hs : s ≠ b) (ht : t ≠ b) : (renN a b s == renN a b t) = (s == t) := renN_beq ha hb hs ht
theorem ss_ren {w : Bytes} (hw : w ≠ b) : ∀ c : List Bytes, (∀ k ∈ c, k ≠ b) → SS.has (c.map (renN a b)) (renN a b w) = SS.has c w
  | [], _ => rfl
  | j :: l, h => by
    have e1 : SS.has ((j :: l).map (renN a b)) (renN a b w) = ((renN a b w == renN a b j) || SS.has (l.map (renN a b)) (renN a b w)) := rfl
    have e2 : SS.has (j :: l) w = ((w == j) || SS.has l w) := rfl
    rw [e1, e2, ss_ren hw l (fun k hk => h k (List.mem_cons_of_mem _ hk)), renN_beq ha hb hw (h j (by simp))]
theorem del_ren {w : Bytes} (hw : w ≠ b) : ∀ c : List Bytes, (∀ k ∈ c, k ≠ b) → SS.del (c.map (renN a b)) (renN a b w) = (SS.del c w).map (renN a b)
  | [], _ => rfl
  | j :: l, h => by
    simp only [List.map_cons, SS.del]
    rw [renN_beq ha hb hw (h j (by simp)), del_ren hw l (fun k hk => h k (List.mem_cons_of_mem _ hk))]
    split
    · rfl
    · rfl
mutual
theorem tntE_ren {c : List Bytes} (hc : ∀ k ∈ c, k ≠ b) : ∀ e : E, menE b e = false → tntE (c.map (renN a b)) (renE a b e) = tntE c e
  | .mk op n s args, h => by
    simp only [menE, Bool.or_eq_false_iff] at h
    simp only [renE, tntE]
    rw [tntEs_ren hc args h.2]
    by_cases h3 : op = 3
    · subst h3
      have hs : s ≠ b := by simpa using h.1
      simp only [decide_true, if_true]
      rw [ss_ren ha hb hs c hc]
    · rw [show decide (op = 3) = false by simpa using h3]
      rfl
theorem tntEs_ren {c : List Bytes} (hc : ∀ k ∈ c, k ≠ b) : ∀ l : List E, menE.menEs b l = false → tntEs (c.map (renN a b)) (renEs a b l) = tntEs c l
  | [], h => rfl
  | x :: l, h => by
    simp only [menE.menEs, Bool.or_eq_false_iff] at h
    simp only [renEs, tntEs]
    rw [tntE_ren hc x h.1, tntEs_ren hc l h.2]
end
mutual
theorem oprE_ren {c : List Bytes} (hc : ∀ k ∈ c, k ≠ b) : ∀ e : E, menE b e = false → oprE (c.map (renN a b)) (renE a b e) = oprE c e
  | .mk op n s args, h => by
    simp only [menE, Bool.or_eq_false_iff] at h
    simp only [renE, oprE]
    rw [tntEs_ren ha hb hc args h.2, oprEs_ren hc args h.2]
theorem oprEs_ren {c : List Bytes} (hc : ∀ k ∈ c, k ≠ b) : ∀ l : List E, menE.menEs b l = false → oprEs (c.map (renN a b)) (renEs a b l) = oprEs c l
  | [], h => rfl
  | x :: l, h => by
    simp only [menE.menEs, Bool.or_eq_false_iff] at h
    simp only [renEs, oprEs]
    rw [oprE_ren hc x h.1, oprEs_ren hc l h.2]
end
theorem drtS_ren {c : List Bytes} (hc : ∀ k ∈ c, k ≠ b) {op : Int} {x y : E} (hx : menE b x = false) (hy : menE b y = false) : drtS (c.map (renN a b)) op (renE a b x) (renE a b y) = drtS c op x y := by
  unfold drtS
  rw [tntE_ren ha hb hc x hx, tntE_ren ha hb hc y hy]
theorem delS_ren {c : List Bytes} (hc : ∀ k ∈ c, k ≠ b) {u : Bool} {op : Int} {name : Bytes} {x y : E} (hn : name ≠ b) (hx : menE b x = false) (hy : menE b y = false) :
    delS (c.map (renN a b)) u op (renN a b name) (renE a b x) (renE a b y) = (delS c u op name x y).map (renN a b) := by
  unfold delS
  rw [drtS_ren ha hb hc hx hy, renN_nilI ha hb, del_ren ha hb hn c hc]
  split <;> rfl
theorem undS_ren {c : List Bytes} (hc : ∀ k ∈ c, k ≠ b) {u : Bool} {op : Int} {x y : E} (hx : menE b x = false) (hy : menE b y = false) :
    undS (c.map (renN a b)) u op (renE a b x) (renE a b y) = undS c u op x y := by
  unfold undS
  rw [drtS_ren ha hb hc hx hy]
mutual
theorem flS_ren : ∀ (x : Stm) (d : Int) (c : List Bytes) (u : Bool), (visS x d).any (visHas b) = false → (∀ k ∈ c, k ≠ b) → flS (renS a b x) (c.map (renN a b)) u = (flS x c u).map (renN a b)
  | .mk op name max x y body els, d, c, u, h, hc => by
    obtain ⟨h1, h2, h3, h4, h5⟩ := free_S h
    have hd : ∀ k ∈ delS c u op name x y, k ≠ b := fun k hk => hc k ((delS_sub c u op name x y).subset hk)
    have hf : ∀ k ∈ flL body (delS c u op name x y) (undS c u op x y), k ≠ b := fun k hk => hd k ((flL_sub body _ _).subset hk)
    show flL (renSs a b els) (flL (renSs a b body) (delS (c.map (renN a b)) u op (renN a b name) (renE a b x) (renE a b y)) (undS (c.map (renN a b)) u op (renE a b x) (renE a b y))) (undS (c.map (renN a b)) u op (renE a b x) (renE a b y)) = (flL els (flL body (delS c u op name x y) (undS c u op x y)) (undS c u op x y)).map (renN a b)
    rw [delS_ren ha hb hc h1 h2 h3, undS_ren ha hb hc h2 h3, flL_ren body _ _ _ h4 hd, flL_ren els _ _ _ h5 hf]
theorem flL_ren : ∀ (l : List Stm) (d : Int) (c : List Bytes) (u : Bool), (visSs l d).any (visHas b) = false → (∀ k ∈ c, k ≠ b) → flL (renSs a b l) (c.map (renN a b)) u = (flL l c u).map (renN a b)
  | [], d, c, u, h, hc => rfl
  | x :: l, d, c, u, h, hc => by
    simp only [visSs, List.any_append, Bool.or_eq_false_iff] at h
    have hf : ∀ k ∈ flS x c u, k ≠ b := fun k hk => hc k ((flS_sub x c u).subset hk)
    show flL (renSs a b l) (flS (renS a b x) (c.map (renN a b)) u) u = (flL l (flS x c u) u).map (renN a b)
    rw [flS_ren x d c u h.1 hc, flL_ren l d _ u h.2 hf]
end
mutual
theorem keyS_ren {c : List Bytes} (hc : ∀ k ∈ c, k ≠ b) : ∀ (x : Stm) (d : Int), (visS x d).any (visHas b) = false → keyS (c.map (renN a b)) (renS a b x) = keyS c x ∧ brnS (c.map (renN a b)) (renS a b x) = brnS c x
  | .mk op name max x y body els, d, h => by
    obtain ⟨h1, h2, h3, h4, h5⟩ := free_S h
    obtain ⟨k1, k2⟩ := keyL_ren hc body _ h4
    obtain ⟨k3, k4⟩ := keyL_ren hc els _ h5
    simp only [renS, keyS, brnS]
    rw [k1, k2, k3, k4, tntE_ren ha hb hc x h2, tntE_ren ha hb hc y h3, oprE_ren ha hb hc x h2, oprE_ren ha hb hc y h3]
    exact ⟨rfl, rfl⟩
theorem keyL_ren {c : List Bytes} (hc : ∀ k ∈ c, k ≠ b) : ∀ (l : List Stm) (d : Int), (visSs l d).any (visHas b) = false → keyL (c.map (renN a b)) (renSs a b l) = keyL c l ∧ brnL (c.map (renN a b)) (renSs a b l) = brnL c l
  | [], d, h => ⟨rfl, rfl⟩
  | x :: l, d, h => by
    simp only [visSs, List.any_append, Bool.or_eq_false_iff] at h
    obtain ⟨k1, k2⟩ := keyS_ren hc x d h.1
    obtain ⟨k3, k4⟩ := keyL_ren hc l d h.2
    simp only [renSs, keyL, brnL]
    rw [k1, k2, k3, k4]
    exact ⟨rfl, rfl⟩
end
theorem it_ren {l : List Stm} {d : Int} (h : (visSs l d).any (visHas b) = false) : ∀ (n : Nat) (c : List Bytes), (∀ k ∈ c, k ≠ b) → itG (fun c => flL (renSs a b l) c false) n (c.map (renN a b)) = (itG (fun c => flL l c false) n c).map (renN a b)
  | 0, c, hc => rfl
  | n + 1, c, hc => by
    show itG _ n (flL (renSs a b l) (c.map (renN a b)) false) = (itG _ n (flL l c false)).map (renN a b)
    rw [flL_ren ha hb l d c false h hc]
    exact it_ren h n _ (fun k hk => hc k ((flL_sub l c false).subset hk))
omit ha hb in
theorem it_sub (l : List Stm) : ∀ (n : Nat) (c : List Bytes), (itG (fun c => flL l c false) n c).Sublist c
  | 0, c => List.Sublist.refl _
  | n + 1, c => (it_sub l n _).trans (flL_sub l c false)
theorem flow_ren {p : Pr} (V : Vld p) (ho : occT p b = false) : tnsS (renP a b p) = (tnsS p).map (renN a b) ∧ keyD (renP a b p) = keyD p ∧ brnD (renP a b p) = brnD p ∧ indD (renP a b p) = indD p := by
  obtain ⟨e1, -⟩ := chkS_ren ha hb V ho
  by_cases hc : chkS p = 0
  · have hc2 : chkS (renP a b p) = 0 := by rw [e1]; exact hc
    have hf := prm_free ha hb ho
    have hv : (visSs p.body 1).any (visHas b) = false := by
      unfold occT at ho
      rw [Bool.or_eq_false_iff, V.vis] at ho
      exact ho.2
    have hnm : ∀ k ∈ namesS p, k ≠ b := by
      unfold namesS paramNames
      rw [V.vis]
      intro k hk
      rcases List.mem_append.1 hk with hk | hk
      · obtain ⟨x, hx, rfl⟩ := List.mem_map.1 hk
        exact hf x hx
      · exact namesV_has _ hv k hk
    have q0 : c0S (renP a b p) = (c0S p).map (renN a b) := by
      rw [(c0_eq hc).1, (c0_eq hc2).1, namesS_ren]
    have hc0 : ∀ k ∈ c0S p, k ≠ b := by rw [(c0_eq hc).1]; exact hnm
    have q1 : clnS (renP a b p) = (clnS p).map (renN a b) := by
      unfold clnS
      rw [q0, List.length_map]
      exact it_ren ha hb hv _ _ hc0
    have hcl : ∀ k ∈ clnS p, k ≠ b := fun k hk => hc0 k ((it_sub p.body _ _).subset hk)
    obtain ⟨k1, k2⟩ := keyL_ren ha hb hcl p.body 1 hv
    have kb : (renP a b p).body = renSs a b p.body := rfl
    refine ⟨?_, ?_, ?_, ?_⟩
    · unfold tnsS
      rw [e1, q1, namesS_ren]
      by_cases hd : decide (chkS p = 0) = true
      · rw [if_pos hd, if_pos hd, List.filter_map]
        congr 1
        refine List.filter_congr fun s hs => ?_
        show (!SS.has ((clnS p).map (renN a b)) (renN a b s)) = _
        rw [ss_ren ha hb (hnm s hs) (clnS p) hcl]
      · rw [if_neg hd, if_neg hd]
        rfl
    · unfold keyD; rw [e1, q1, kb, k1]
    · unfold brnD; rw [e1, q1, kb, k2]
    · unfold indD; rw [e1, q1, kb, k1]
  · have d1 : decide (chkS p = 0) = false := by simpa using hc
    unfold tnsS keyD brnD indD
    rw [e1, d1]
    exact ⟨rfl, rfl, rfl, rfl⟩
end
end Go.Proofs.Ytdcmimpjmngdlaa
