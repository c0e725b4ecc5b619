/- The two flows go together: what is not tainted on one side is tainted on the other. -/
import Derived.Test.YtdcmimpjmngdlaaGreatSeatR
import Derived.Test.YtdcmimpjmngdlaaGreatSeatO
set_option linter.unusedVariables false
set_option linter.unusedSimpArgs false
set_option linter.all false
set_option linter.deprecated false
set_option linter.all false
namespace Go.Proofs.YtdcmimpjmngdlaaGreat
open Go.Abs
theorem put_new (x : Bytes) : ∀ m : List Bytes, x ∉ m → SS.put m x = m ++ [x]
  | [], _ => rfl
  | j :: m, h => by
    simp only [SS.put]
    rw [if_neg (by intro e; have : x = j := by simpa using e
                   exact h (by simp [this])), put_new x m (fun hm => h (List.mem_cons_of_mem _ hm))]
    rfl
theorem metL_new : ∀ (l m : List Bytes), (m ++ l).Nodup → metL m l = m ++ l
  | [], m, _ => by simp [metL]
  | x :: l, m, h => by
    have hx : x ∉ m := by
      intro hm
      exact (List.nodup_append.1 h).2.2 x hm x (by simp) rfl
    rw [metL, put_new x m hx, metL_new l (m ++ [x]) (by simpa using h)]
    simp
theorem del_none (k : Bytes) : ∀ c : List Bytes, SS.has c k = false → SS.del c k = c
  | [], _ => rfl
  | j :: l, h => by
    simp only [SS.has, List.any_cons, Bool.or_eq_false_iff] at h
    simp only [SS.del]
    rw [if_neg (by simp [h.1]), del_none k l h.2]
theorem has_mem {c : List Bytes} {k : Bytes} : SS.has c k = true ↔ k ∈ c := by
  unfold SS.has
  rw [List.any_eq_true]
  constructor
  · rintro ⟨j, hj, he⟩
    have : k = j := by simpa using he
    exact this ▸ hj
  · exact fun h => ⟨k, h, by simp⟩
theorem hv_mem {c : List Bytes} {k : Bytes} : hv c k = true ↔ k ∈ c := by
  unfold hv
  rw [List.any_eq_true]
  constructor
  · rintro ⟨j, hj, he⟩
    have : j = k := by simpa using he
    exact this ▸ hj
  · exact fun h => ⟨k, h, by simp⟩
theorem hasS_mem {c : List Bytes} {k : Bytes} : hasS c k = true ↔ k ∈ c := hv_mem
theorem del_len (k : Bytes) : ∀ c : List Bytes, SS.has c k = true → (SS.del c k).length + 1 = c.length
  | [], h => by simp [SS.has] at h
  | j :: l, h => by
    simp only [SS.del]
    by_cases hk : (k == j) = true
    · rw [if_pos hk]; rfl
    · rw [if_neg hk]
      simp only [SS.has, List.any_cons, Bool.or_eq_true] at h
      rcases h with h | h
      · exact absurd h hk
      · have := del_len k l h
        simp only [List.length_cons]
        omega
theorem del_has (k s : Bytes) : ∀ c : List Bytes, c.Nodup → SS.has (SS.del c k) s = (SS.has c s && !(k == s))
  | [], _ => rfl
  | j :: l, h => by
    have hj := (List.nodup_cons.1 h).1
    have ih := del_has k s l (List.nodup_cons.1 h).2
    simp only [SS.del]
    by_cases hk : (k == j) = true
    · rw [if_pos hk]
      have : k = j := by simpa using hk
      subst this
      by_cases hs : (k == s) = true
      · have : k = s := by simpa using hs
        subst this
        have h0 : SS.has l k = false := by
          cases h1 : SS.has l k with
          | false => rfl
          | true => exact absurd (has_mem.1 h1) hj
        rw [h0, hs]; simp
      · have h2 : (s == k) = false := by
          rw [Bool.beq_comm]; simpa using hs
        simp only [SS.has, List.any_cons, h2, Bool.false_or]
        rw [show (k == s) = false by simpa using hs]
        simp
    · rw [if_neg hk]
      have e1 : SS.has (j :: SS.del l k) s = ((s == j) || SS.has (SS.del l k) s) := rfl
      have e2 : SS.has (j :: l) s = ((s == j) || SS.has l s) := rfl
      rw [e1, e2, ih]
      by_cases hs : (s == j) = true
      · have : s = j := by simpa using hs
        subst this
        rw [show (k == s) = false by simpa using hk]
        simp
      · rw [show (s == j) = false by simpa using hs]
        simp
/-- what the check shows of every statement -/
structure KnS (N : List Bytes) (y : Stm) (k : Int) : Prop where
  ok : StmOk y k
  a : knE N y.a = true
  b : knE N y.b = true
  n : uN y.op = true → y.name ∈ N
theorem kn_all {p : Pr} (hc : chkS p = 0) : ∀ y k, Vis.s y k ∈ visSs p.body 1 → KnS (namesS p) y k := by
  intro y k hy
  obtain ⟨V, hbl, hd, h0, hk⟩ := chk_zero hc
  have hs := V.stmOk3 y k hy
  have T := chk_ty hc y k hy
  have hop := hs.op
  have o : y.op = 1 ∨ y.op = 2 ∨ y.op = 3 ∨ y.op = 4 ∨ y.op = 5 ∨ y.op = 6 ∨ y.op = 7 ∨ y.op = 8 := by omega
  rw [← allV_names V]
  refine ⟨hs, ?_, ?_, ?_⟩
  · by_cases ua : uA y.op = true
    · refine knE_of (allV p) y.a 1 (hs.a ua) ?_
      rcases o with o | o | o | o | o | o | o | o
      · obtain ⟨t, _, _, _, h⟩ := T.set (.inl o); rw [h]
      · obtain ⟨t, _, _, _, h⟩ := T.set (.inr o); rw [h]
      · rw [(T.put o).1]
      · rw [T.del o]
      · rw [T.br o]
      · rw [(T.loop o).1]
      · exact (T.emit o).1
      · rw [o] at ua; simp [uA] at ua
    · exact knE_abs (hs.na (by simpa using ua))
  · by_cases ub : uB y.op = true
    · refine knE_of (allV p) y.b 1 (hs.b ub) ?_
      have : y.op = 3 ∨ y.op = 6 := by simpa [uB] using ub
      rcases this with o | o
      · exact (T.put o).2.1
      · rw [(T.loop o).2.1]
    · exact knE_abs (hs.nb (by simpa using ub))
  · intro un
    have : y.op = 1 ∨ y.op = 2 ∨ y.op = 6 := by simpa [uN, or_assoc] using un
    rw [← hasS_mem]
    rcases this with o | o | o
    · obtain ⟨t, _, _, h, _⟩ := T.set (.inl o); exact has_get h
    · obtain ⟨t, _, _, h, _⟩ := T.set (.inr o); exact has_get h
    · exact has_get (T.loop o).2.2
section
variable {N c v : List Bytes}
mutual
theorem tnt_sim (h : ∀ s ∈ N, hv v s = !SS.has c s) : ∀ e : E, knE N e = true → tnE v e = tntE c e
  | .mk op n s args, hk => by
    rw [knE] at hk
    by_cases h1 : (decide (op = 3) && !hasS N s) = true
    · rw [if_pos h1] at hk; cases hk
    · rw [if_neg h1] at hk
      rw [tnE, tntE, tnts_sim h args hk]
      by_cases h3 : op = 3
      · have hs : hasS N s = true := by simpa [h3] using h1
        rw [h s (hasS_mem.1 hs), Bool.or_assoc]
      · rw [show decide (op = 3) = false by simpa using h3]
        simp
theorem tnts_sim (h : ∀ s ∈ N, hv v s = !SS.has c s) : ∀ l : List E, knL N l = true → tnEs v l = tntEs c l
  | [], _ => rfl
  | x :: l, hk => by
    rw [knL, Bool.and_eq_true] at hk
    rw [tnEs, tntEs, tnt_sim h x hk.1, tnts_sim h l hk.2]
end
end
structure Sim (N c v : List Bytes) (K : Nat) : Prop where
  nd : c.Nodup
  has : ∀ s ∈ N, hv v s = !SS.has c s
  len : v.length + c.length = K
theorem hv_snoc (v : List Bytes) (x s : Bytes) : hv (v ++ [x]) s = (hv v s || (x == s)) := by
  unfold hv
  rw [List.any_append]
  simp
theorem sim_step {N c v : List Bytes} {K : Nat} (S : Sim N c v K) {u : Bool} {op : Int} {name : Bytes} {a b : E} (hn : name ≠ [] → name ∈ N) :
    Sim N (delS c u op name a b) (addS v (u || drtS c op a b) name) K := by
  unfold delS addS
  by_cases h : (!(name == []) && (u || drtS c op a b)) = true
  · rw [if_pos h]
    rw [Bool.and_eq_true] at h
    rw [h.1, h.2]
    have hne : name ≠ [] := by simpa using h.1
    have hN := hn hne
    have hh := S.has name hN
    cases h1 : hv v name with
    | true =>
      rw [h1] at hh
      have h2 : SS.has c name = false := by
        cases h3 : SS.has c name with
        | false => rfl
        | true => rw [h3] at hh; cases hh
      rw [del_none name c h2]
      exact S
    | false =>
      rw [h1] at hh
      have h2 : SS.has c name = true := by
        cases h3 : SS.has c name with
        | true => rfl
        | false => rw [h3] at hh; cases hh
      rw [if_pos (by rfl)]
      refine ⟨S.nd.sublist (ssdel_sub _ _), fun s hs => ?_, ?_⟩
      · rw [hv_snoc, del_has name s c S.nd, S.has s hs]
        cases SS.has c s <;> cases (name == s) <;> rfl
      · have := del_len name c h2
        have := S.len
        simp
        omega
  · rw [if_neg h, if_neg]
    · exact S
    · intro h2
      apply h
      simp only [Bool.and_eq_true] at h2 ⊢
      exact ⟨h2.1.2, h2.1.1⟩
theorem her_und {N c v : List Bytes} {K : Nat} (S : Sim N c v K) {u : Bool} {op : Int} {a b : E} (ha : knE N a = true) (hb : knE N b = true) : herS v u op a b = (u || drtS c op a b) := by
  unfold herS drtS
  rw [tnt_sim S.has a ha, tnt_sim S.has b hb, Bool.or_assoc]
theorem und_br {c : List Bytes} {u : Bool} {op : Int} {a b : E} (h : op = 5 ∨ op = 6) : undS c u op a b = (u || drtS c op a b) := by
  unfold undS
  rcases h with h | h <;> subst h <;> simp
theorem kn_nobr {N : List Bytes} {x : Stm} {d : Int} (h : KnS N x d) (h56 : ¬ (x.op = 5 ∨ x.op = 6)) : x.body = [] ∧ x.els = [] := by
  refine ⟨h.ok.nbody ?_, h.ok.nels ?_⟩
  · simp [uBo]; omega
  · simp [uO]; omega
mutual
theorem simS {N : List Bytes} {K : Nat} : ∀ (x : Stm) (d : Int) (c v : List Bytes) (u : Bool), (∀ y k, Vis.s y k ∈ visS x d → KnS N y k) → Sim N c v K → Sim N (flS x c u) (spS x v u) K
  | .mk op name max a b body els, d, c, v, u, hk, S => by
    have k0 := hk _ d (vis_self _ d)
    have vb : ∀ y k, Vis.s y k ∈ visSs body (IntKind.i64.wrap (d + 1)) → KnS N y k := fun y k hy => hk y k (vis_body _ hy)
    have ve : ∀ y k, Vis.s y k ∈ visSs els (IntKind.i64.wrap (d + 1)) → KnS N y k := fun y k hy => hk y k (vis_els _ hy)
    have hn : name ≠ [] → name ∈ N := by
      intro hne
      refine k0.n ?_
      by_cases hu : uN op = true
      · exact hu
      · exact absurd (k0.ok.nname (by simpa using hu)) hne
    have e1 : herS v u op a b = (u || drtS c op a b) := her_und S k0.a k0.b
    have S1 := sim_step S (u := u) (op := op) (name := name) (a := a) (b := b) hn
    show Sim N (flL els (flL body (delS c u op name a b) (undS c u op a b)) (undS c u op a b)) (spL els (spL body (addS v (herS v u op a b) name) (herS v u op a b)) (herS v u op a b)) K
    rw [e1]
    by_cases h56 : op = 5 ∨ op = 6
    · rw [und_br h56]
      exact simL els _ _ _ _ ve (simL body _ _ _ _ vb S1)
    · have hb0 : body = [] := (kn_nobr k0 h56).1
      have he0 : els = [] := (kn_nobr k0 h56).2
      rw [hb0, he0]
      exact S1
theorem simL {N : List Bytes} {K : Nat} : ∀ (l : List Stm) (d : Int) (c v : List Bytes) (u : Bool), (∀ y k, Vis.s y k ∈ visSs l d → KnS N y k) → Sim N c v K → Sim N (flL l c u) (spL l v u) K
  | [], d, c, v, u, hk, S => S
  | x :: l, d, c, v, u, hk, S => by
    have h1 : ∀ y k, Vis.s y k ∈ visS x d → KnS N y k := fun y k hy => hk y k (by rw [visSs]; exact List.mem_append_left _ hy)
    have h2 : ∀ y k, Vis.s y k ∈ visSs l d → KnS N y k := fun y k hy => hk y k (by rw [visSs]; exact List.mem_append_right _ hy)
    exact simL l d _ _ u h2 (simS x d c v u h1 S)
end
theorem addS_pre (v : List Bytes) (h : Bool) (name : Bytes) : v <+: addS v h name := by
  unfold addS
  split
  · exact List.prefix_append _ _
  · exact List.prefix_refl _
mutual
theorem spS_pre : ∀ (x : Stm) (v : List Bytes) (u : Bool), v <+: spS x v u
  | .mk op name max a b body els, v, u => ((addS_pre v _ name).trans (spL_pre body _ _)).trans (spL_pre els _ _)
theorem spL_pre : ∀ (l : List Stm) (v : List Bytes) (u : Bool), v <+: spL l v u
  | [], v, u => List.prefix_refl _
  | x :: l, v, u => (spS_pre x v u).trans (spL_pre l _ u)
end
abbrev itV (p : Pr) (j : Nat) : List Bytes := itG (fun v => spL p.body v false) j []
abbrev itC (p : Pr) (j : Nat) : List Bytes := itG (fun c => flL p.body c false) j (c0S p)
theorem c0_eq {p : Pr} (hc : chkS p = 0) : c0S p = namesS p ∧ (namesS p).Nodup := by
  obtain ⟨V, hbl, hd, h0, hk⟩ := chk_zero hc
  have hn := ((dupR_false _ _).1 hd).1
  exact ⟨metL_new (namesS p) [] (by simpa using hn), hn⟩
theorem sim_it {p : Pr} (hc : chkS p = 0) : ∀ j, Sim (namesS p) (itC p j) (itV p j) (namesS p).length
  | 0 => by
    obtain ⟨h1, h2⟩ := c0_eq hc
    show Sim _ (c0S p) [] _
    rw [h1]
    refine ⟨h2, fun s hs => ?_, by simp⟩
    rw [has_mem.2 hs]
    rfl
  | j + 1 => by
    show Sim _ (itG _ (j + 1) (c0S p)) (itG _ (j + 1) []) _
    rw [itG_succ, itG_succ]
    exact simL p.body 1 _ _ false (kn_all hc) (sim_it hc j)
/-- the tainted variables, as the reference collects them -/
def allS (p : Pr) : List Bytes := itV p (c0S p).length
theorem fix_both {p : Pr} (hc : chkS p = 0) (j : Nat) : (spL p.body (itV p j) false).length = (itV p j).length ↔ flL p.body (itC p j) false = itC p j := by
  have s1 := sim_it hc j
  have s2 := sim_it hc (j + 1)
  have e1 : itC p (j + 1) = flL p.body (itC p j) false := itG_succ _ j _
  have e2 : itV p (j + 1) = spL p.body (itV p j) false := itG_succ _ j _
  rw [e1, e2] at s2
  have l1 := s1.len
  have l2 := s2.len
  constructor
  · intro h
    exact (flL_sub p.body _ false).eq_of_length (by omega)
  · intro h
    rw [h] at l2
    omega
theorem fixV {p : Pr} {j : Nat} (h : (spL p.body (itV p j) false).length = (itV p j).length) : spL p.body (itV p j) false = itV p j :=
  ((spL_pre p.body (itV p j) false).eq_of_length h.symm).symm
theorem all_of {p : Pr} (hc : chkS p = 0) {j : Nat} (h : (spL p.body (itV p j) false).length = (itV p j).length) : itV p j = allS p := by
  have h2 := (fix_both hc (c0S p).length).2 (cln_rest p)
  exact itG_same (F := fun v => spL p.body v false) (fixV h) (fixV h2)
theorem all_sim {p : Pr} (hc : chkS p = 0) : Sim (namesS p) (clnS p) (allS p) (namesS p).length := sim_it hc _
theorem itV_len {p : Pr} (hc : chkS p = 0) (j : Nat) : (itV p j).length ≤ (namesS p).length := by
  have := (sim_it hc j).len
  omega
theorem tns_has {p : Pr} (hc : chkS p = 0) : ∀ s ∈ namesS p, hv (tnsS p) s = !SS.has (clnS p) s := by
  intro s hs
  unfold tnsS
  rw [if_pos (by simpa using hc)]
  cases h : SS.has (clnS p) s with
  | true =>
    cases h2 : hv _ s with
    | false => rfl
    | true =>
      have h3 := hv_mem.1 h2
      rw [List.mem_filter, h] at h3
      cases h3.2
  | false => exact hv_mem.2 (List.mem_filter.2 ⟨hs, by rw [h]; rfl⟩)
theorem tns_ref {p : Pr} (hc : chkS p = 0) : (namesS p).filter (fun s => hv (allS p) s) = tnsS p := by
  unfold tnsS
  rw [if_pos (by simpa using hc)]
  refine List.filter_congr fun s hs => ?_
  exact (all_sim hc).has s hs
end Go.Proofs.YtdcmimpjmngdlaaGreat
set_option linter.all false
namespace Go.Proofs.YtdcmimpjmngdlaaGreat
open Go.Abs
attribute [local congr] ite_congr
set_option maxRecDepth 10000
/-! drawn regions with guards that hold -/
section
variable {F : AF} {ks : List KF} {i j : Nat} {w : Bool} {ops rest : List Oper} {dst : Option Tmp} {op : Op} {ty : TypeId} {pos : String} {after : Array Edge} {env : AEnv} {A : AHeap} {ms : List AMark}
theorem ct_guard (hg : aguardK env w (anth ops j) = some true) :
    ct F ks ops.toArray i (⟨dst, op, ty, pos, after, some (j, w)⟩ :: rest) env A ms = ctS F ks ops.toArray i rest A ms (auses env F.f F.c.noesc ⟨dst, op, ty, pos, after, none⟩) (pstore env ⟨dst, op, ty, pos, after, none⟩) (atouch ops.toArray env ⟨dst, op, ty, pos, after, some (j, w)⟩) (aop F.c.noesc (acl F.c) F.f F.nt ⟨dst, op, ty, pos, after, none⟩ env A) := by
  unfold ctS ct
  simp only [atrace, aguard_some, hg, Option.bind_some, if_true]
  have e : aop F.c.noesc (acl F.c) F.f F.nt ⟨dst, op, ty, pos, after, some (j, w)⟩ env A = aop F.c.noesc (acl F.c) F.f F.nt ⟨dst, op, ty, pos, after, none⟩ env A := rfl
  rw [e]
  cases aop F.c.noesc (acl F.c) F.f F.nt ⟨dst, op, ty, pos, after, none⟩ env A with
  | none => rfl
  | some r =>
    simp only [Option.bind_some]
    cases atrace F.c.noesc (acl F.c) F.f F.nt ops.toArray (i + 1) rest r.1 r.2 with
    | none => rfl
    | some q =>
      simp only [Option.map_some, Option.bind_some]
      rw [List.append_assoc]
      rfl
theorem ct_guard_slot (h : isSlot op = true) (hg : aguardK env w (anth ops j) = some true) :
    ct F ks ops.toArray i (⟨dst, op, ty, pos, after, some (j, w)⟩ :: rest) env A ms = ctS F ks ops.toArray i rest A ms (auses env F.f F.c.noesc ⟨dst, op, ty, pos, after, none⟩) none (atouch ops.toArray env ⟨dst, op, ty, pos, after, some (j, w)⟩) (aputS F.nt dst env (aslot F.c.noesc (acl F.c) env A op)) := by
  rw [ct_guard hg, aop_slot h, pstore_slot h]
end
attribute [local go_sem low] ct_guard
attribute [local go_sem] ct_guard_slot
theorem vis_len2 {p : Pr} (hc : chkS p = 0) : (visSs p.body 1).length ≤ 400 := (chk_small hc).2.len
theorem allR (p : Pr) (hp : p.Ok) (hc : chkS p = 0) (A : AHeap) : acl C 22 [Pr.av p] A = some (.d (.slice ((allS p).map sRow)), A) := by
  have hnl := namesS_len p (chk_small hc).1
  have hvl := vis_len2 hc
  have hlen := itV_len hc
  have sp := fun j A => spP p hp (itV p j) false (by have := hlen j; omega) A
  rw [k_call (c := C) (f := 22) rfl Tryz.func22 rfl (ok 22 (by kernel_rfl)) rfl Tryz.ntmps22 Tryz.results22 (by simp)]
  simp (maxSteps := 1000000) only [go_sem, acondK_bool, acB_merge, Nat.reduceLT, Nat.reduceLeDiff, Nat.reduceEqDiff, Nat.reduceAdd, Nat.reduceSub, Nat.reduceMul, Nat.reduceBEq, Nat.reduceBNe, Nat.reduceBneDiff, Nat.reduceBeqDiff, Int.reduceToNat, Int.reduceLE, Int.reduceLT, Int.reduceEq, Int.reduceNe, Int.reduceNeg, Int.reduceAdd, Int.reduceSub, ↓reduceIte, reduceCtorEq]
  refine loop_meas (fun s : Int × AV × Nat => [(4, .v (.d (.int .i64 s.1))), (3, .v s.2.1), (1, .box [.d (.str p.name), .d (.slice (p.params.map Pm.row)), .d (.slice (p.body.map Stm.row))])])
    (fun _ => A) (fun s => 2 * ((namesS p).length - (itV p s.2.2).length) + (if s.1 < ((itV p s.2.2).length : Nat) then 1 else 0))
    (fun s => (s.2.1 = .nilS ∧ s.2.2 = 0 ∧ s.1 = -1) ∨ (s.2.1 = .d (.slice ((itV p s.2.2).map sRow)) ∧ ∃ j, s.2.2 = j + 1 ∧ s.1 = ((itV p j).length : Nat)))
    (-1, .nilS, 0) rfl rfl (.inl ⟨rfl, rfl, rfl⟩) ?_
  intro s hI ih
  obtain ⟨n, w, j⟩ := s
  have hstep : itV p (j + 1) = spL p.body (itV p j) false := itG_succ _ j _
  have hpre := (spL_pre p.body (itV p j) false).length_le
  rw [← hstep] at hpre
  have hl1 := hlen j
  have hl2 := hlen (j + 1)
  have sp1 := sp j A
  rw [← hstep] at sp1
  have e1 := fun (hlt : n < (((itV p j).length : Nat) : Int)) => ih (((itV p j).length : Nat), .d (.slice ((itV p (j + 1)).map sRow)), j + 1) (by
    show 2 * ((namesS p).length - (itV p (j + 1)).length) + (if ((itV p j).length : Int) < ((itV p (j + 1)).length : Nat) then 1 else 0) < 2 * ((namesS p).length - (itV p j).length) + (if n < ((itV p j).length : Nat) then 1 else 0)
    rw [if_pos hlt]
    split <;> omega) (.inr ⟨rfl, j, rfl, rfl⟩)
  rcases hI with ⟨h1, h2, h3⟩ | ⟨h1, j0, h2, h3⟩
  · change w = .nilS at h1
    change j = 0 at h2
    change n = -1 at h3
    subst h1 h2 h3
    have e2 := e1 (by show (-1 : Int) < ((0 : Nat) : Int); omega)
    have e0 : (((itV p 0).length : Nat) : Int) = 0 := rfl
    have e00 : itV p 0 = [] := rfl
    rw [e00] at sp1
    have sp0 : acl C 39 [.d (.slice (p.body.map Stm.row)), .nilS, .d (.bool false)] A = some (.d (.slice ((itV p (0 + 1)).map sRow)), A) := by
      rw [← sp1]
      exact acl_clean rfl Tryz.func39 rfl (ok 39 (by kernel_rfl)) (by rw [Tryz.ntmps39]; simp) (by rw [Tryz.ntmps39]; simp) rfl rfl rfl rfl rfl
    rw [e0] at e2
    rw [show (0 + 1 : Nat) = 1 from rfl] at e2 sp0
    simp (maxSteps := 1000000) only [go_sem, acondK_bool, acB_merge, Nat.reduceLT, Nat.reduceLeDiff, Nat.reduceEqDiff, Nat.reduceAdd, Nat.reduceSub, Nat.reduceMul, Nat.reduceBEq, Nat.reduceBNe, Nat.reduceBneDiff, Nat.reduceBeqDiff, Int.reduceToNat, Int.reduceLE, Int.reduceLT, Int.reduceEq, Int.reduceNe, Int.reduceNeg, Int.reduceAdd, Int.reduceSub, ↓reduceIte, reduceCtorEq, sp0, e2]
  · change w = .d (.slice ((itV p j).map sRow)) at h1
    change j = j0 + 1 at h2
    change n = _ at h3
    subst h1
    subst h2
    cases h : decide (n < ((itV p (j0 + 1)).length : Int)) with
    | true =>
      have e2 := e1 (by simpa using h)
      simp (maxSteps := 1000000) only [go_sem, acondK_bool, acB_merge, Nat.reduceLT, Nat.reduceLeDiff, Nat.reduceEqDiff, Nat.reduceAdd, Nat.reduceSub, Nat.reduceMul, Nat.reduceBEq, Nat.reduceBNe, Nat.reduceBneDiff, Nat.reduceBeqDiff, Int.reduceToNat, Int.reduceLE, Int.reduceLT, Int.reduceEq, Int.reduceNe, Int.reduceNeg, Int.reduceAdd, Int.reduceSub, ↓reduceIte, reduceCtorEq, h, sp1, e2]
    | false =>
      have hs0 : itV p (j0 + 1) = spL p.body (itV p j0) false := itG_succ _ j0 _
      have hp0 := (spL_pre p.body (itV p j0) false).length_le
      have hlt : ¬ (n < ((itV p (j0 + 1)).length : Int)) := by simpa using h
      have he : (spL p.body (itV p j0) false).length = (itV p j0).length := by
        rw [hs0] at hlt
        omega
      have hfin : itV p (j0 + 1) = allS p := by rw [hs0, fixV he]; exact all_of hc he
      rw [hfin] at h ⊢
      simp (maxSteps := 1000000) only [go_sem, acondK_bool, acB_merge, Nat.reduceLT, Nat.reduceLeDiff, Nat.reduceEqDiff, Nat.reduceAdd, Nat.reduceSub, Nat.reduceMul, Nat.reduceBEq, Nat.reduceBNe, Nat.reduceBneDiff, Nat.reduceBeqDiff, Int.reduceToNat, Int.reduceLE, Int.reduceLT, Int.reduceEq, Int.reduceNe, Int.reduceNeg, Int.reduceAdd, Int.reduceSub, ↓reduceIte, reduceCtorEq, h]
/-- are keys, are branches tainted? -/
def keyD (p : Pr) : Bool := decide (chkS p = 0) && keyL (clnS p) p.body
def brnD (p : Pr) : Bool := decide (chkS p = 0) && brnL (clnS p) p.body
def indD (p : Pr) : Bool := decide (chkS p = 0) && !keyL (clnS p) p.body
theorem keysD (p : Pr) (hp : p.Ok) (h40 : p.params.length ≤ 40) (A : AHeap) : acl C 6 [Pr.av p] A = some (.d (.bool (keyD p)), A) := by
  have k1 := checkOf p hp h40 A
  have a1 := analyze p hp h40 A
  have y1 := keyP p hp (A.objs.length + 1) A.objs.length (clnS p) (prH p A (clnS p)) an_has
  have fin := an_back (f := 6) (A := A) (a := .str p.name) (b := .slice (p.params.map Pm.row)) (d := .slice (p.body.map Stm.row)) (c := clnS p) (v := .d (.bool (keyL (clnS p) p.body))) rfl rfl
  rw [k_call (c := C) (f := 6) rfl Tryz.func6 rfl (ok 6 (by kernel_rfl)) rfl Tryz.ntmps6 Tryz.results6 (by simp)]
  unfold keyD
  cases hc : decide (chkS p = 0) with
  | false => simp (maxSteps := 1000000) only [go_sem, acondK_bool, acB_merge, Nat.reduceLT, Nat.reduceLeDiff, Nat.reduceEqDiff, Nat.reduceAdd, Nat.reduceSub, Nat.reduceMul, Nat.reduceBEq, Nat.reduceBNe, Nat.reduceBneDiff, Nat.reduceBeqDiff, Int.reduceToNat, Int.reduceLE, Int.reduceLT, Int.reduceEq, Int.reduceNe, Int.reduceNeg, Int.reduceAdd, Int.reduceSub, ↓reduceIte, reduceCtorEq, k_drawn_q, k1, hc]
  | true =>
    simp (maxSteps := 1000000) only [go_sem, acondK_bool, acB_merge, Nat.reduceLT, Nat.reduceLeDiff, Nat.reduceEqDiff, Nat.reduceAdd, Nat.reduceSub, Nat.reduceMul, Nat.reduceBEq, Nat.reduceBNe, Nat.reduceBneDiff, Nat.reduceBeqDiff, Int.reduceToNat, Int.reduceLE, Int.reduceLT, Int.reduceEq, Int.reduceNe, Int.reduceNeg, Int.reduceAdd, Int.reduceSub, ↓reduceIte, reduceCtorEq, k_drawn_t, k1, hc, a1, y1]
    refine Eq.trans (ctE_ok (by repeat (first | exact MLe.nil | apply MLe.qq | apply MLe.q | apply MLe.o | apply MLe.b | apply MLe.l)) (by kernel_rfl)) ?_
    simp (maxSteps := 1000000) only [go_sem, acondK_bool, acB_merge, Nat.reduceLT, Nat.reduceLeDiff, Nat.reduceEqDiff, Nat.reduceAdd, Nat.reduceSub, Nat.reduceMul, Nat.reduceBEq, Nat.reduceBNe, Nat.reduceBneDiff, Nat.reduceBeqDiff, Int.reduceToNat, Int.reduceLE, Int.reduceLT, Int.reduceEq, Int.reduceNe, Int.reduceNeg, Int.reduceAdd, Int.reduceSub, ↓reduceIte, reduceCtorEq, fin]
theorem controlD (p : Pr) (hp : p.Ok) (h40 : p.params.length ≤ 40) (A : AHeap) : acl C 8 [Pr.av p] A = some (.d (.bool (brnD p)), A) := by
  have k1 := checkOf p hp h40 A
  have a1 := analyze p hp h40 A
  have y1 := brnP p hp (A.objs.length + 1) A.objs.length (clnS p) (prH p A (clnS p)) an_has
  have fin := an_back (f := 8) (A := A) (a := .str p.name) (b := .slice (p.params.map Pm.row)) (d := .slice (p.body.map Stm.row)) (c := clnS p) (v := .d (.bool (brnL (clnS p) p.body))) rfl rfl
  rw [k_call (c := C) (f := 8) rfl Tryz.func8 rfl (ok 8 (by kernel_rfl)) rfl Tryz.ntmps8 Tryz.results8 (by simp)]
  unfold brnD
  cases hc : decide (chkS p = 0) with
  | false => simp (maxSteps := 1000000) only [go_sem, acondK_bool, acB_merge, Nat.reduceLT, Nat.reduceLeDiff, Nat.reduceEqDiff, Nat.reduceAdd, Nat.reduceSub, Nat.reduceMul, Nat.reduceBEq, Nat.reduceBNe, Nat.reduceBneDiff, Nat.reduceBeqDiff, Int.reduceToNat, Int.reduceLE, Int.reduceLT, Int.reduceEq, Int.reduceNe, Int.reduceNeg, Int.reduceAdd, Int.reduceSub, ↓reduceIte, reduceCtorEq, k_drawn_q, k1, hc]
  | true =>
    simp (maxSteps := 1000000) only [go_sem, acondK_bool, acB_merge, Nat.reduceLT, Nat.reduceLeDiff, Nat.reduceEqDiff, Nat.reduceAdd, Nat.reduceSub, Nat.reduceMul, Nat.reduceBEq, Nat.reduceBNe, Nat.reduceBneDiff, Nat.reduceBeqDiff, Int.reduceToNat, Int.reduceLE, Int.reduceLT, Int.reduceEq, Int.reduceNe, Int.reduceNeg, Int.reduceAdd, Int.reduceSub, ↓reduceIte, reduceCtorEq, k_drawn_t, k1, hc, a1, y1]
    refine Eq.trans (ctE_ok (by repeat (first | exact MLe.nil | apply MLe.qq | apply MLe.q | apply MLe.o | apply MLe.b | apply MLe.l)) (by kernel_rfl)) ?_
    simp (maxSteps := 1000000) only [go_sem, acondK_bool, acB_merge, Nat.reduceLT, Nat.reduceLeDiff, Nat.reduceEqDiff, Nat.reduceAdd, Nat.reduceSub, Nat.reduceMul, Nat.reduceBEq, Nat.reduceBNe, Nat.reduceBneDiff, Nat.reduceBeqDiff, Int.reduceToNat, Int.reduceLE, Int.reduceLT, Int.reduceEq, Int.reduceNe, Int.reduceNeg, Int.reduceAdd, Int.reduceSub, ↓reduceIte, reduceCtorEq, fin]
theorem independentD (p : Pr) (hp : p.Ok) (h40 : p.params.length ≤ 40) (A : AHeap) : acl C 10 [Pr.av p] A = some (.d (.bool (indD p)), A) := by
  have k1 := checkOf p hp h40 A
  have a1 := analyze p hp h40 A
  have y1 := keyP p hp (A.objs.length + 1) A.objs.length (clnS p) (prH p A (clnS p)) an_has
  have fin := fun b => an_back (f := 10) (A := A) (a := .str p.name) (b := .slice (p.params.map Pm.row)) (d := .slice (p.body.map Stm.row)) (c := clnS p) (v := .d (.bool b)) rfl rfl
  rw [k_call (c := C) (f := 10) rfl Tryz.func10 rfl (ok 10 (by kernel_rfl)) rfl Tryz.ntmps10 Tryz.results10 (by simp)]
  unfold indD
  cases hc : decide (chkS p = 0) with
  | false => simp (maxSteps := 1000000) only [go_sem, acondK_bool, acB_merge, Nat.reduceLT, Nat.reduceLeDiff, Nat.reduceEqDiff, Nat.reduceAdd, Nat.reduceSub, Nat.reduceMul, Nat.reduceBEq, Nat.reduceBNe, Nat.reduceBneDiff, Nat.reduceBeqDiff, Int.reduceToNat, Int.reduceLE, Int.reduceLT, Int.reduceEq, Int.reduceNe, Int.reduceNeg, Int.reduceAdd, Int.reduceSub, ↓reduceIte, reduceCtorEq, k_drawn_q, k1, hc]
  | true =>
    simp (maxSteps := 1000000) only [go_sem, acondK_bool, acB_merge, Nat.reduceLT, Nat.reduceLeDiff, Nat.reduceEqDiff, Nat.reduceAdd, Nat.reduceSub, Nat.reduceMul, Nat.reduceBEq, Nat.reduceBNe, Nat.reduceBneDiff, Nat.reduceBeqDiff, Int.reduceToNat, Int.reduceLE, Int.reduceLT, Int.reduceEq, Int.reduceNe, Int.reduceNeg, Int.reduceAdd, Int.reduceSub, ↓reduceIte, reduceCtorEq, k_drawn_t, k1, hc, a1, y1]
    refine Eq.trans (ctE_ok (by repeat (first | exact MLe.nil | apply MLe.qq | apply MLe.q | apply MLe.o | apply MLe.b | apply MLe.l)) (by kernel_rfl)) ?_
    simp (maxSteps := 1000000) only [go_sem, acondK_bool, acB_merge, Nat.reduceLT, Nat.reduceLeDiff, Nat.reduceEqDiff, Nat.reduceAdd, Nat.reduceSub, Nat.reduceMul, Nat.reduceBEq, Nat.reduceBNe, Nat.reduceBneDiff, Nat.reduceBeqDiff, Int.reduceToNat, Int.reduceLE, Int.reduceLT, Int.reduceEq, Int.reduceNe, Int.reduceNeg, Int.reduceAdd, Int.reduceSub, ↓reduceIte, reduceCtorEq, fin]
end Go.Proofs.YtdcmimpjmngdlaaGreat
set_option linter.all false
namespace Go.Proofs.YtdcmimpjmngdlaaGreat
open Go.Abs
attribute [local congr] ite_congr
set_option maxRecDepth 10000
theorem stringsL (l : List Bytes) (hl : l.length ≤ 4194303) (A : AHeap) : acl C 16 [.d (.slice (l.map sRow)), .d (.slice (l.map sRow))] A = some (.d (.bool true), A) := by
  have e5 : decide (((l.length : Nat) : Int) = ((l.length : Nat) : Int)) = true := by simp
  rw [k_call (c := C) (f := 16) rfl Tryz.func16 rfl (ok 16 (by kernel_rfl)) rfl Tryz.ntmps16 Tryz.results16 (by simp)]
  simp (maxSteps := 1000000) only [go_sem, acondK_bool, acB_merge, Nat.reduceLT, Nat.reduceLeDiff, Nat.reduceEqDiff, Nat.reduceAdd, Nat.reduceSub, Nat.reduceMul, Nat.reduceBEq, Nat.reduceBNe, Nat.reduceBneDiff, Nat.reduceBeqDiff, Int.reduceToNat, Int.reduceLE, Int.reduceLT, Int.reduceEq, Int.reduceNe, Int.reduceNeg, Int.reduceAdd, Int.reduceSub, ↓reduceIte, reduceCtorEq, e5]
  refine loop_any (fun pre => [(0, .v (.d (.slice (l.map sRow)))), (1, .v (.d (.slice (l.map sRow)))), (5, .v (.d (.int .i64 (pre.length : Nat))))]) (fun _ => A) (fun _ suf => some (.d (.bool true), A)) l rfl rfl rfl ?_
  intro pre suf h ih
  have hb : pre.length < 9223372036854775807 := by rw [h] at hl; simp at hl; omega
  cases suf with
  | nil =>
    rw [List.append_nil] at h
    subst h
    have e4 : decide ((l.length : Int) < (l.length : Int)) = false := by simp
    simp (maxSteps := 1000000) only [go_sem, acondK_bool, acB_merge, Nat.reduceLT, Nat.reduceLeDiff, Nat.reduceEqDiff, Nat.reduceAdd, Nat.reduceSub, Nat.reduceMul, Nat.reduceBEq, Nat.reduceBNe, Nat.reduceBneDiff, Nat.reduceBeqDiff, Int.reduceToNat, Int.reduceLE, Int.reduceLT, Int.reduceEq, Int.reduceNe, Int.reduceNeg, Int.reduceAdd, Int.reduceSub, ↓reduceIte, reduceCtorEq, e4]
  | cons x suf =>
    have e2 := ih x suf rfl
    rw [List.length_append, List.length_cons, List.length_nil] at e2
    have e3 : (l.map sRow)[pre.length]? = some [.str x] := by rw [h]; exact map_mid
    have e4 : decide ((pre.length : Int) < (l.length : Int)) = true := by rw [h]; simp; omega
    have e6 : (x == x) = true := by simp
    simp (maxSteps := 1000000) only [go_sem, acondK_bool, acB_merge, Nat.reduceLT, Nat.reduceLeDiff, Nat.reduceEqDiff, Nat.reduceAdd, Nat.reduceSub, Nat.reduceMul, Nat.reduceBEq, Nat.reduceBNe, Nat.reduceBneDiff, Nat.reduceBeqDiff, Int.reduceToNat, Int.reduceLE, Int.reduceLT, Int.reduceEq, Int.reduceNe, Int.reduceNeg, Int.reduceAdd, Int.reduceSub, ↓reduceIte, reduceCtorEq, k_drawn_q, e3, e4, e2, e6, wrap_nat hb]
def touchS (p : Pr) : Bool := (exprsS p).any (tnE [])
mutual
def cloS (v : List Bytes) : Stm → Bool → Bool
  | .mk op name max a b body els => fun u => !((herS v u op a b && ((decide (op = 1) || decide (op = 2)) || decide (op = 6))) && !hv v name) && (cloL v body (herS v u op a b) && cloL v els (herS v u op a b))
def cloL (v : List Bytes) : List Stm → Bool → Bool
  | [] => fun _ => true
  | x :: l => fun u => cloS v x u && cloL v l u
end
end Go.Proofs.YtdcmimpjmngdlaaGreat
set_option linter.all false
namespace Go.Proofs.YtdcmimpjmngdlaaGreat
open Go.Abs
theorem her_und2 {N c v : List Bytes} (h : ∀ s ∈ N, hv v s = !SS.has c s) {u : Bool} {op : Int} {a b : E} (ha : knE N a = true) (hb : knE N b = true) : herS v u op a b = (u || drtS c op a b) := by
  unfold herS drtS
  rw [tnt_sim h a ha, tnt_sim h b hb, Bool.or_assoc]
mutual
theorem clo_fixS {N c v : List Bytes} (h : ∀ s ∈ N, hv v s = !SS.has c s) : ∀ (x : Stm) (d : Int) (u : Bool), (∀ y k, Vis.s y k ∈ visS x d → KnS N y k) → flS x c u = c → cloS v x u = true
  | .mk op name max a b body els, d, u, hk, hf => by
    have k0 := hk _ d (vis_self _ d)
    have vb : ∀ y k, Vis.s y k ∈ visSs body (IntKind.i64.wrap (d + 1)) → KnS N y k := fun y k hy => hk y k (vis_body _ hy)
    have ve : ∀ y k, Vis.s y k ∈ visSs els (IntKind.i64.wrap (d + 1)) → KnS N y k := fun y k hy => hk y k (vis_els _ hy)
    have e1 : herS v u op a b = (u || drtS c op a b) := her_und2 h k0.a k0.b
    have hf' : flL els (flL body (delS c u op name a b) (undS c u op a b)) (undS c u op a b) = c := hf
    have s1 := delS_sub c u op name a b
    have s2 := flL_sub body (delS c u op name a b) (undS c u op a b)
    have s3 := flL_sub els (flL body (delS c u op name a b) (undS c u op a b)) (undS c u op a b)
    have l1 := s1.length_le
    have l2 := s2.length_le
    have l3 := s3.length_le
    have l4 : (flL els (flL body (delS c u op name a b) (undS c u op a b)) (undS c u op a b)).length = c.length := by rw [hf']
    have q1 : delS c u op name a b = c := s1.eq_of_length (by omega)
    have q2 : flL body (delS c u op name a b) (undS c u op a b) = delS c u op name a b := s2.eq_of_length (by omega)
    rw [q2, q1] at hf'
    rw [q1] at q2
    have hmain : ((herS v u op a b && ((decide (op = 1) || decide (op = 2)) || decide (op = 6))) && !hv v name) = false := by
      cases hh : herS v u op a b with
      | false => rfl
      | true =>
        cases ho : ((decide (op = 1) || decide (op = 2)) || decide (op = 6)) with
        | false => rfl
        | true =>
          have hu : uN op = true := by unfold uN; exact ho
          have hN : name ∈ N := k0.n hu
          have hname : isName name = true := k0.ok.name hu
          have hne : name ≠ [] := by intro e; rw [e] at hname; revert hname; decide
          rw [e1] at hh
          have hd : delS c u op name a b = SS.del c name := by
            unfold delS
            rw [if_pos]
            rw [hh]
            simpa using hne
          rw [hd] at q1
          have : SS.has c name = false := by
            cases h3 : SS.has c name with
            | false => rfl
            | true =>
              have := del_len name c h3
              rw [q1] at this
              omega
          rw [h name hN, this]
          rfl
    show (!((herS v u op a b && ((decide (op = 1) || decide (op = 2)) || decide (op = 6))) && !hv v name) && (cloL v body (herS v u op a b) && cloL v els (herS v u op a b))) = true
    rw [hmain, e1]
    by_cases h56 : op = 5 ∨ op = 6
    · rw [und_br h56] at q2 hf'
      rw [clo_fixL h body _ _ vb q2, clo_fixL h els _ _ ve hf']
      rfl
    · have hb0 : body = [] := (kn_nobr k0 h56).1
      have he0 : els = [] := (kn_nobr k0 h56).2
      rw [hb0, he0]
      rfl
theorem clo_fixL {N c v : List Bytes} (h : ∀ s ∈ N, hv v s = !SS.has c s) : ∀ (l : List Stm) (d : Int) (u : Bool), (∀ y k, Vis.s y k ∈ visSs l d → KnS N y k) → flL l c u = c → cloL v l u = true
  | [], d, u, hk, hf => rfl
  | x :: l, d, u, hk, hf => by
    have h1 : ∀ y k, Vis.s y k ∈ visS x d → KnS N y k := fun y k hy => hk y k (by rw [visSs]; exact List.mem_append_left _ hy)
    have h2 : ∀ y k, Vis.s y k ∈ visSs l d → KnS N y k := fun y k hy => hk y k (by rw [visSs]; exact List.mem_append_right _ hy)
    have hf' : flL l (flS x c u) u = c := hf
    have s1 := flS_sub x c u
    have s2 := flL_sub l (flS x c u) u
    have l1 := s1.length_le
    have l2 := s2.length_le
    have l3 : (flL l (flS x c u) u).length = c.length := by rw [hf']
    have q1 : flS x c u = c := s1.eq_of_length (by omega)
    rw [q1] at hf'
    show (cloS v x u && cloL v l u) = true
    rw [clo_fixS h x d u h1 q1, clo_fixL h l d u h2 hf']
    rfl
end
theorem clo_all {p : Pr} (hc : chkS p = 0) : cloL (tnsS p) p.body false = true :=
  clo_fixL (tns_has hc) p.body 1 false (kn_all hc) (cln_rest p)
theorem tns_within (p : Pr) : ((tnsS p).all fun s => hv (namesS p) s) = true := by
  rw [List.all_eq_true]
  intro s hs
  refine hv_mem.2 ?_
  unfold tnsS at hs
  split at hs
  · exact (List.mem_filter.1 hs).1
  · cases hs
theorem tns_len (p : Pr) (h40 : p.params.length ≤ 40) : (tnsS p).length ≤ 441 := by
  have := namesS_len p h40
  unfold tnsS
  split
  · have := List.length_filter_le (fun s => !SS.has (clnS p) s) (namesS p)
    omega
  · simp
/-! without reads -/
theorem vis_head (e : E) (r : Bool) : Vis.e e r ∈ visE e r := by
  cases e
  simp [visE]
mutual
theorem vis_roots : ∀ (x : Stm) (d : Int) (y : Stm) (k : Int), Vis.s y k ∈ visS x d → (absE y.a = false → Vis.e y.a true ∈ visS x d) ∧ (absE y.b = false → Vis.e y.b true ∈ visS x d)
  | .mk op name max a b body els, d, y, k, h => by
    rw [visS] at h ⊢
    rcases List.mem_cons.1 h with h | h
    · injection h with h1 h2
      subst h1
      constructor
      · intro ha
        rw [show (Stm.mk op name max a b body els).a = a from rfl] at ha ⊢
        rw [if_neg (by simp [ha])]
        exact List.mem_cons_of_mem _ (List.mem_append_left _ (vis_head a true))
      · intro hb
        rw [show (Stm.mk op name max a b body els).b = b from rfl] at hb ⊢
        refine List.mem_cons_of_mem _ (List.mem_append_right _ (List.mem_append_left _ ?_))
        rw [if_neg (by simp [hb])]
        exact vis_head b true
    · rcases List.mem_append.1 h with h | h
      · exfalso
        split at h
        · cases h
        · obtain ⟨z, q, hz⟩ := visE_all a true _ h; cases hz
      · rcases List.mem_append.1 h with h | h
        · exfalso
          split at h
          · cases h
          · obtain ⟨z, q, hz⟩ := visE_all b true _ h; cases hz
        · rcases List.mem_append.1 h with h | h
          · obtain ⟨g1, g2⟩ := vis_rootsL body _ y k h
            exact ⟨fun ha => List.mem_cons_of_mem _ (List.mem_append_right _ (List.mem_append_right _ (List.mem_append_left _ (g1 ha)))), fun hb => List.mem_cons_of_mem _ (List.mem_append_right _ (List.mem_append_right _ (List.mem_append_left _ (g2 hb))))⟩
          · obtain ⟨g1, g2⟩ := vis_rootsL els _ y k h
            exact ⟨fun ha => List.mem_cons_of_mem _ (List.mem_append_right _ (List.mem_append_right _ (List.mem_append_right _ (g1 ha)))), fun hb => List.mem_cons_of_mem _ (List.mem_append_right _ (List.mem_append_right _ (List.mem_append_right _ (g2 hb))))⟩
theorem vis_rootsL : ∀ (l : List Stm) (d : Int) (y : Stm) (k : Int), Vis.s y k ∈ visSs l d → (absE y.a = false → Vis.e y.a true ∈ visSs l d) ∧ (absE y.b = false → Vis.e y.b true ∈ visSs l d)
  | [], d, y, k, h => by rw [visSs] at h; cases h
  | x :: l, d, y, k, h => by
    rw [visSs] at h ⊢
    rcases List.mem_append.1 h with h | h
    · obtain ⟨g1, g2⟩ := vis_roots x d y k h
      exact ⟨fun ha => List.mem_append_left _ (g1 ha), fun hb => List.mem_append_left _ (g2 hb)⟩
    · obtain ⟨g1, g2⟩ := vis_rootsL l d y k h
      exact ⟨fun ha => List.mem_append_right _ (g1 ha), fun hb => List.mem_append_right _ (g2 hb)⟩
end
theorem tnE_abs {v : List Bytes} {e : E} (h : absE e = true) : tnE v e = false := by
  cases e with
  | mk op n s args =>
    simp only [absE, absentS, Bool.and_eq_true, decide_eq_true_eq] at h
    obtain ⟨⟨⟨h1, _⟩, _⟩, h4⟩ := h
    have : args = [] := by cases args with | nil => rfl | cons _ _ => simp at h4; omega
    subst this
    change op = 0 at h1
    subst h1
    rfl
def Still (c : List Bytes) (y : Stm) : Prop := tntE c y.a = false ∧ tntE c y.b = false
theorem still_all {p : Pr} (hc : chkS p = 0) (ht : touchS p = false) : ∀ y k, Vis.s y k ∈ visSs p.body 1 → Still (c0S p) y := by
  intro y k hy
  have K := kn_all hc y k hy
  have V := (chk_small hc).2
  obtain ⟨g1, g2⟩ := vis_rootsL p.body 1 y k hy
  have hrel : ∀ s ∈ namesS p, hv [] s = !SS.has (c0S p) s := (sim_it hc 0).has
  have hx : ∀ e, (absE e = false → Vis.e e true ∈ visSs p.body 1) → tnE [] e = false := by
    intro e he
    by_cases ha : absE e = true
    · exact tnE_abs ha
    · have hm := he (by simpa using ha)
      rw [← V.vis] at hm
      have hm2 : e ∈ exprsS p := (mem_rootsV _ e).2 hm
      have := List.any_eq_false.1 ht e hm2
      simpa using this
  exact ⟨by rw [← tnt_sim hrel y.a K.a]; exact hx _ g1, by rw [← tnt_sim hrel y.b K.b]; exact hx _ g2⟩
theorem drt_still {c : List Bytes} {x : Stm} (h : Still c x) : drtS c x.op x.a x.b = false := by
  unfold drtS
  rw [h.1, h.2]
  simp
mutual
theorem fl_still {c : List Bytes} : ∀ (x : Stm) (d : Int), (∀ y k, Vis.s y k ∈ visS x d → Still c y) → flS x c false = c
  | .mk op name max a b body els, d, hk => by
    have vb : ∀ y k, Vis.s y k ∈ visSs body (IntKind.i64.wrap (d + 1)) → Still c y := fun y k hy => hk y k (vis_body _ hy)
    have ve : ∀ y k, Vis.s y k ∈ visSs els (IntKind.i64.wrap (d + 1)) → Still c y := fun y k hy => hk y k (vis_els _ hy)
    have hd : drtS c op a b = false := drt_still (hk _ d (vis_self _ d))
    have h1 : delS c false op name a b = c := by unfold delS; rw [hd]; simp
    have h2 : undS c false op a b = false := by unfold undS; rw [hd]; simp
    show flL els (flL body (delS c false op name a b) (undS c false op a b)) (undS c false op a b) = c
    rw [h1, h2, fl_stillL body _ vb, fl_stillL els _ ve]
theorem fl_stillL {c : List Bytes} : ∀ (l : List Stm) (d : Int), (∀ y k, Vis.s y k ∈ visSs l d → Still c y) → flL l c false = c
  | [], d, hk => rfl
  | x :: l, d, hk => by
    have h1 : ∀ y k, Vis.s y k ∈ visS x d → Still c y := fun y k hy => hk y k (by rw [visSs]; exact List.mem_append_left _ hy)
    have h2 : ∀ y k, Vis.s y k ∈ visSs l d → Still c y := fun y k hy => hk y k (by rw [visSs]; exact List.mem_append_right _ hy)
    show flL l (flS x c false) false = c
    rw [fl_still x d h1, fl_stillL l d h2]
end
mutual
theorem opr_still {c : List Bytes} : ∀ e : E, tntE c e = false → oprE c e = false
  | .mk op n s args, h => by
    rw [tntE] at h
    simp only [Bool.or_eq_false_iff] at h
    rw [oprE, h.1, opr_stills args h.2.2]
    rfl
theorem opr_stills {c : List Bytes} : ∀ l : List E, tntEs c l = false → oprEs c l = false
  | [], _ => rfl
  | x :: l, h => by
    rw [tntEs, Bool.or_eq_false_iff] at h
    rw [oprEs, opr_still x h.1, opr_stills l h.2]
    rfl
end
mutual
theorem key_still {c : List Bytes} : ∀ (x : Stm) (d : Int), (∀ y k, Vis.s y k ∈ visS x d → Still c y) → keyS c x = false ∧ brnS c x = false
  | .mk op name max a b body els, d, hk => by
    have vb : ∀ y k, Vis.s y k ∈ visSs body (IntKind.i64.wrap (d + 1)) → Still c y := fun y k hy => hk y k (vis_body _ hy)
    have ve : ∀ y k, Vis.s y k ∈ visSs els (IntKind.i64.wrap (d + 1)) → Still c y := fun y k hy => hk y k (vis_els _ hy)
    obtain ⟨ha, hb⟩ := hk _ d (vis_self _ d)
    change tntE c a = false at ha
    change tntE c b = false at hb
    obtain ⟨k1, k2⟩ := key_stillL body _ vb
    obtain ⟨k3, k4⟩ := key_stillL els _ ve
    rw [keyS, brnS, ha, hb, opr_still a ha, opr_still b hb, k1, k2, k3, k4]
    simp
theorem key_stillL {c : List Bytes} : ∀ (l : List Stm) (d : Int), (∀ y k, Vis.s y k ∈ visSs l d → Still c y) → keyL c l = false ∧ brnL c l = false
  | [], d, hk => ⟨rfl, rfl⟩
  | x :: l, d, hk => by
    have h1 : ∀ y k, Vis.s y k ∈ visS x d → Still c y := fun y k hy => hk y k (by rw [visSs]; exact List.mem_append_left _ hy)
    have h2 : ∀ y k, Vis.s y k ∈ visSs l d → Still c y := fun y k hy => hk y k (by rw [visSs]; exact List.mem_append_right _ hy)
    obtain ⟨k1, k2⟩ := key_still x d h1
    obtain ⟨k3, k4⟩ := key_stillL l d h2
    rw [keyL, brnL, k1, k2, k3, k4]
    exact ⟨rfl, rfl⟩
end
theorem cln_still {p : Pr} (hc : chkS p = 0) (ht : touchS p = false) : clnS p = c0S p :=
  itG_fix (F := fun c => flL p.body c false) (fl_stillL p.body 1 (still_all hc ht)) _
theorem tns_still {p : Pr} (ht : touchS p = false) : tnsS p = [] := by
  unfold tnsS
  by_cases hc : chkS p = 0
  · rw [if_pos (by simpa using hc), cln_still hc ht, (c0_eq hc).1]
    rw [List.filter_eq_nil_iff]
    intro s hs
    rw [has_mem.2 hs]
    simp
  · rw [if_neg (by simpa using hc)]
theorem key_none {p : Pr} (ht : touchS p = false) : keyD p = false ∧ brnD p = false ∧ indD p = decide (chkS p = 0) := by
  unfold keyD brnD indD
  by_cases hc : chkS p = 0
  · obtain ⟨h1, h2⟩ := key_stillL p.body 1 (still_all hc ht)
    rw [cln_still hc ht, h1, h2]
    simp
  · rw [show decide (chkS p = 0) = false by simpa using hc]
    exact ⟨rfl, rfl, rfl⟩
end Go.Proofs.YtdcmimpjmngdlaaGreat
