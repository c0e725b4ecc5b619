/- The machine does a statement: let and set. -/
import Derived.Test.YtpbdjgdmhfibmaaGreatDoorSeatE
import Derived.Test.YtpbdjgdmhfibmaaGreatDoorSeatB
set_option linter.all false
namespace Go.Proofs.YtpbdjgdmhfibmaaGreatDoor
open Go.Abs
attribute [local congr] ite_congr
set_option maxRecDepth 100000
def avS (op : Int) (name : Bytes) (max : Int) (a b : E) (body els : List Stm) : AV :=
 .agg [.d (.int .i64 op), .d (.str name), .d (.int .i64 max), .d (.int .i64 a.op), .d (.int .i64 a.n), .d (.str a.s), .d (.slice (a.args.map E.row)), .d (.int .i64 b.op), .d (.int .i64 b.n), .d (.str b.s), .d (.slice (b.args.map E.row)), .d (.slice (body.map Stm.row)), .d (.slice (els.map Stm.row))]
theorem st1_ok {A : AHeap} {x : Ids} {m m1 : Mc} {n0 : Nat} (hS : HS A x m) (hm : MOk m n0) (name : Bytes) (max : Int) (a b : E) (body els : List Stm) (hn : n0 + nodE a ≤ 1099511627776) (he : EvalsTo x a) {v : Vl} (hv : evE a m = .ok v m1) :
  Does 89 [.ptr x.m 0, avS 1 name max a b body els] A x (.ok (.tuple []) { m1 with vars := setE m1.vars name v }) := by
 have h := hS
 obtain ⟨ov, rv, wv, h⟩ := h
 have hc := h.cell
 unfold mcell at hc
 have ev := he A m n0 hS hm hn
 rw [hv] at ev
 obtain ⟨B, a1, a2, a3⟩ := ev
 obtain ⟨ov', rv', wv', h'⟩ := a2
 have hq := h'.updV (setE m1.vars name v)
 have hB : HS _ x { m1 with vars := setE m1.vars name v } := ⟨_, _, _, hq⟩
 obtain ⟨k1, k2⟩ := keep_fin (f := 89) (v := .tuple []) nice_t hS hB (a3.trans (h'.keepV _))
 refine ⟨_, ?_, k1, k2⟩
 have e := fun B => finR (f := 89) (A := A) (B := B) nice_t
 have up := aupd_mapE name v m1.vars
 have hvB := h'.vars
 have pl : aplainV (.agg [.d (.int .i64 v.kind), .d (.int .i64 v.n), .d (.str v.s)]) = true := rfl
 simp only [Vl.av] at up a1
 simp only [E.av, eV] at a1
 rw [kC Tryz.func89 rfl Tryz.ntmps89 Tryz.results89]
 simp only [go_sem, acondK_bool, k_drawn_t, hc, a1, hvB, up, pl, amuM, avS]
 have ldA : aload A 1 false (.ptr x.m 4) = some (.mapr x.v) := by simp only [aload, hc]; rfl
 have ldB : aload B 1 false (.ptr x.m 4) = some (.mapr x.v) := by
  have hc' := h'.cell
  unfold mcell at hc'
  simp only [aload, hc']; rfl
 have ldD : aload ⟨B.objs.set x.v (.map (mapE (setE m1.vars name v))), B.bufs⟩ 1 false (.ptr x.m 4) = some (.mapr x.v) := by
  have hc' := hq.cell
  unfold mcell at hc'
  simp only [aload, hc']; rfl
 refine Eq.trans (ctE_free (free := [3]) (by repeat (first | exact MLe.nil | apply MLe.qq | apply MLe.q | apply MLe.o | apply MLe.b | apply MLe.l)) ?_ (by kernel_rfl)) ?_
 ·intro m' hm' hi
  simp only [List.nil_append, List.append_assoc, List.cons_append, List.mem_cons, List.not_mem_nil, or_false] at hm'
  rcases hm' with rfl | rfl | rfl | rfl | rfl | rfl | rfl | rfl | rfl | rfl | rfl
  all_goals first | (exact absurd hi Bool.false_ne_true) | skip
  refine ⟨1, false, .ptr x.m 4, rfl, ?_⟩
  intro mm hmm
  simp only [List.nil_append, List.append_assoc, List.cons_append, List.mem_cons, List.not_mem_nil, or_false] at hmm
  rcases hmm with rfl | rfl | rfl | rfl | rfl | rfl | rfl | rfl | rfl | rfl | rfl
  all_goals simp only [achg, ldA, ldB, ldD, ne_eq, not_true_eq_false, not_false_eq_true]
 ·simp only [go_sem, acondK_bool, e, mcell]
theorem st1_stop {A : AHeap} {x : Ids} {m mF : Mc} {n0 : Nat} (hS : HS A x m) (hm : MOk m n0) (name : Bytes) (max : Int) (a b : E) (body els : List Stm) (hn : n0 + nodE a ≤ 1099511627776) (he : EvalsTo x a) {z : Stp} (hv : evE a m = .stop z mF) :
  Does 89 [.ptr x.m 0, avS 1 name max a b body els] A x (.stop z mF) := by
 have h := hS
 obtain ⟨ov, rv, wv, h⟩ := h
 have hc := h.cell
 unfold mcell at hc
 have ev := he A m n0 hS hm hn
 rw [hv] at ev
 obtain ⟨B, a2, a3, a1⟩ := ev
 obtain ⟨k1, k2⟩ := keep_fin (f := 89) (v := z.av) (nice_s _) hS a2 a3
 refine ⟨_, k1, k2, fun R hR => ?_⟩
 have ldA : aload A 1 false (.ptr x.m 4) = some (.mapr x.v) := by simp only [aload, hc]; rfl
 simp only [E.av, eV] at a1
 refine pC Tryz.func89 rfl Tryz.ntmps89 Tryz.results89 ?_
 simp only [go_sem, acondK_bool, avS]
 refine p_drawn ?_
 simp only [go_sem, acondK_bool, hc]
 refine pct_here rfl rfl rfl (adrawnP_of (free := [3]) (by repeat (first | exact MLe.nil | apply MLe.qq | apply MLe.q | apply MLe.o | apply MLe.b | apply MLe.l)) ?_ (by kernel_rfl)) ?_
 ·intro m' hm' hi
  simp only [List.nil_append, List.append_assoc, List.cons_append, List.mem_cons, List.not_mem_nil, or_false] at hm'
  rcases hm' with rfl | rfl | rfl | rfl | rfl | rfl | rfl | rfl | rfl
  all_goals first | (exact absurd hi Bool.false_ne_true) | skip
  refine ⟨1, false, .ptr x.m 4, rfl, ?_⟩
  intro mm hmm
  simp only [List.nil_append, List.append_assoc, List.cons_append, List.mem_cons, List.not_mem_nil, or_false] at hmm
  rcases hmm with rfl | rfl | rfl | rfl | rfl | rfl | rfl | rfl | rfl
  all_goals simp only [achg, ldA, ne_eq, not_true_eq_false, not_false_eq_true]
 ·exact a1 _ ((post_fin (nice_s _)).2 hR)
theorem st2_ok {A : AHeap} {x : Ids} {m m1 : Mc} {n0 : Nat} (hS : HS A x m) (hm : MOk m n0) (name : Bytes) (max : Int) (a b : E) (body els : List Stm) (hn : n0 + nodE a ≤ 1099511627776) (he : EvalsTo x a) {v : Vl} (hv : evE a m = .ok v m1) :
  Does 89 [.ptr x.m 0, avS 2 name max a b body els] A x (.ok (.tuple []) { m1 with vars := setE m1.vars name v }) := by
 have h := hS
 obtain ⟨ov, rv, wv, h⟩ := h
 have hc := h.cell
 unfold mcell at hc
 have ev := he A m n0 hS hm hn
 rw [hv] at ev
 obtain ⟨B, a1, a2, a3⟩ := ev
 obtain ⟨ov', rv', wv', h'⟩ := a2
 have hq := h'.updV (setE m1.vars name v)
 have hB : HS _ x { m1 with vars := setE m1.vars name v } := ⟨_, _, _, hq⟩
 obtain ⟨k1, k2⟩ := keep_fin (f := 89) (v := .tuple []) nice_t hS hB (a3.trans (h'.keepV _))
 refine ⟨_, ?_, k1, k2⟩
 have e := fun B => finR (f := 89) (A := A) (B := B) nice_t
 have up := aupd_mapE name v m1.vars
 have hvB := h'.vars
 have pl : aplainV (.agg [.d (.int .i64 v.kind), .d (.int .i64 v.n), .d (.str v.s)]) = true := rfl
 simp only [Vl.av] at up a1
 simp only [E.av, eV] at a1
 rw [kC Tryz.func89 rfl Tryz.ntmps89 Tryz.results89]
 simp only [go_sem, acondK_bool, k_drawn_t, hc, a1, hvB, up, pl, amuM, avS]
 have ldA : aload A 1 false (.ptr x.m 4) = some (.mapr x.v) := by simp only [aload, hc]; rfl
 have ldB : aload B 1 false (.ptr x.m 4) = some (.mapr x.v) := by
  have hc' := h'.cell
  unfold mcell at hc'
  simp only [aload, hc']; rfl
 have ldD : aload ⟨B.objs.set x.v (.map (mapE (setE m1.vars name v))), B.bufs⟩ 1 false (.ptr x.m 4) = some (.mapr x.v) := by
  have hc' := hq.cell
  unfold mcell at hc'
  simp only [aload, hc']; rfl
 refine Eq.trans (ctE_free (free := [3]) (by repeat (first | exact MLe.nil | apply MLe.qq | apply MLe.q | apply MLe.o | apply MLe.b | apply MLe.l)) ?_ (by kernel_rfl)) ?_
 ·intro m' hm' hi
  simp only [List.nil_append, List.append_assoc, List.cons_append, List.mem_cons, List.not_mem_nil, or_false] at hm'
  rcases hm' with rfl | rfl | rfl | rfl | rfl | rfl | rfl | rfl | rfl | rfl | rfl
  all_goals first | (exact absurd hi Bool.false_ne_true) | skip
  refine ⟨1, false, .ptr x.m 4, rfl, ?_⟩
  intro mm hmm
  simp only [List.nil_append, List.append_assoc, List.cons_append, List.mem_cons, List.not_mem_nil, or_false] at hmm
  rcases hmm with rfl | rfl | rfl | rfl | rfl | rfl | rfl | rfl | rfl | rfl | rfl
  all_goals simp only [achg, ldA, ldB, ldD, ne_eq, not_true_eq_false, not_false_eq_true]
 ·simp only [go_sem, acondK_bool, e, mcell]
theorem st2_stop {A : AHeap} {x : Ids} {m mF : Mc} {n0 : Nat} (hS : HS A x m) (hm : MOk m n0) (name : Bytes) (max : Int) (a b : E) (body els : List Stm) (hn : n0 + nodE a ≤ 1099511627776) (he : EvalsTo x a) {z : Stp} (hv : evE a m = .stop z mF) :
  Does 89 [.ptr x.m 0, avS 2 name max a b body els] A x (.stop z mF) := by
 have h := hS
 obtain ⟨ov, rv, wv, h⟩ := h
 have hc := h.cell
 unfold mcell at hc
 have ev := he A m n0 hS hm hn
 rw [hv] at ev
 obtain ⟨B, a2, a3, a1⟩ := ev
 obtain ⟨k1, k2⟩ := keep_fin (f := 89) (v := z.av) (nice_s _) hS a2 a3
 refine ⟨_, k1, k2, fun R hR => ?_⟩
 have ldA : aload A 1 false (.ptr x.m 4) = some (.mapr x.v) := by simp only [aload, hc]; rfl
 simp only [E.av, eV] at a1
 refine pC Tryz.func89 rfl Tryz.ntmps89 Tryz.results89 ?_
 simp only [go_sem, acondK_bool, avS]
 refine p_drawn ?_
 simp only [go_sem, acondK_bool, hc]
 refine pct_here rfl rfl rfl (adrawnP_of (free := [3]) (by repeat (first | exact MLe.nil | apply MLe.qq | apply MLe.q | apply MLe.o | apply MLe.b | apply MLe.l)) ?_ (by kernel_rfl)) ?_
 ·intro m' hm' hi
  simp only [List.nil_append, List.append_assoc, List.cons_append, List.mem_cons, List.not_mem_nil, or_false] at hm'
  rcases hm' with rfl | rfl | rfl | rfl | rfl | rfl | rfl | rfl | rfl
  all_goals first | (exact absurd hi Bool.false_ne_true) | skip
  refine ⟨1, false, .ptr x.m 4, rfl, ?_⟩
  intro mm hmm
  simp only [List.nil_append, List.append_assoc, List.cons_append, List.mem_cons, List.not_mem_nil, or_false] at hmm
  rcases hmm with rfl | rfl | rfl | rfl | rfl | rfl | rfl | rfl | rfl
  all_goals simp only [achg, ldA, ne_eq, not_true_eq_false, not_false_eq_true]
 ·exact a1 _ ((post_fin (nice_s _)).2 hR)
theorem st8_stop {A : AHeap} {x : Ids} {m : Mc} (hS : HS A x m) (name : Bytes) (max : Int) (a b : E) (body els : List Stm) : Does 89 [.ptr x.m 0, avS 8 name max a b body els] A x (.stop (abt max) m) := by
 obtain ⟨k1, k2⟩ := keep_fin (f := 89) (v := (abt max).av) (nice_s _) hS hS (Keep.refl A x)
 refine ⟨_, k1, k2, fun R hR => ?_⟩
 refine pC Tryz.func89 rfl Tryz.ntmps89 Tryz.results89 ?_
 simp only [go_sem, acondK_bool, avS]
 exact abortP ((post_fin (nice_s _)).2 hR)
theorem st0_ok {A : AHeap} {x : Ids} {m : Mc} (hS : HS A x m) (op : Int) (name : Bytes) (max : Int) (a b : E) (body els : List Stm) (h1 : decide (op = 1) = false) (h2 : decide (op = 2) = false) (h3 : decide (op = 3) = false) (h4 : decide (op = 4) = false)
  (h5 : decide (op = 5) = false) (h6 : decide (op = 6) = false) (h7 : decide (op = 7) = false) (h8 : decide (op = 8) = false) : Does 89 [.ptr x.m 0, avS op name max a b body els] A x (.ok (.tuple []) m) := by
 obtain ⟨k1, k2⟩ := keep_fin (f := 89) (v := .tuple []) nice_t hS hS (Keep.refl A x)
 refine ⟨_, ?_, k1, k2⟩
 have e := fun B => finR (f := 89) (A := A) (B := B) nice_t
 rw [kC Tryz.func89 rfl Tryz.ntmps89 Tryz.results89]
 simp only [go_sem, acondK_bool, avS, h1, h2, h3, h4, h5, h6, h7, h8, e]
theorem st7_stop {A : AHeap} {x : Ids} {m mF : Mc} {n0 : Nat} (hS : HS A x m) (hm : MOk m n0) (name : Bytes) (max : Int) (a b : E) (body els : List Stm) (hn : n0 + nodE a ≤ 1099511627776) (he : EvalsTo x a) {z : Stp} (hv : evE a m = .stop z mF) :
  Does 89 [.ptr x.m 0, avS 7 name max a b body els] A x (.stop z mF) := by
 have ev := he A m n0 hS hm hn
 rw [hv] at ev
 obtain ⟨B, a2, a3, a1⟩ := ev
 obtain ⟨k1, k2⟩ := keep_fin (f := 89) (v := z.av) (nice_s _) hS a2 a3
 refine ⟨_, k1, k2, fun R hR => ?_⟩
 have no : acl C 123 [.ptr x.m 0, E.av a] A = none := pcl_no pxNo (a1 (fun _ _ => True) trivial)
 simp only [E.av, eV] at a1 no
 refine pC Tryz.func89 rfl Tryz.ntmps89 Tryz.results89 ?_
 simp only [go_sem, acondK_bool, avS, no]
 exact a1 _ ((post_fin (nice_s _)).2 hR)
theorem st7_ok {A : AHeap} {x : Ids} {m m1 : Mc} {n0 : Nat} (hS : HS A x m) (hm : MOk m n0) (ho : m1.out.length ≤ 16) (name : Bytes) (max : Int) (a b : E) (body els : List Stm) (hn : n0 + nodE a ≤ 1099511627776) (he : EvalsTo x a) {v : Vl} (hv : evE a m = .ok v m1) :
  Does 89 [.ptr x.m 0, avS 7 name max a b body els] A x (mustR (decide (v.kind = 1) || decide (v.kind = 2)) m1 (emitR m1 v)).rs := by
 have ev := he A m n0 hS hm hn
 rw [hv] at ev
 obtain ⟨B, a1, a2, a3⟩ := ev
 have t1 := mustT B
 have t2 := mustN B
 have em := emitP a2 v ho
 rw [← emitR_rs] at em
 simp only [Vl.av] at a1 em
 simp only [E.av, eV] at a1
 have bad : (decide (v.kind = 1) || decide (v.kind = 2)) = false → Does 89 [.ptr x.m 0, avS 7 name max a b body els] A x (.stop (abt 1009) m1) := by
  intro hq
  have q1 : decide (v.kind = 1) = false := by cases h : decide (v.kind = 1) <;> simp_all
  have q2 : decide (v.kind = 2) = false := by cases h : decide (v.kind = 2) <;> simp_all
  obtain ⟨k1, k2⟩ := keep_fin (f := 89) (v := (abt 1009).av) (nice_s _) hS a2 a3
  refine ⟨_, k1, k2, fun R hR => ?_⟩
  refine pC Tryz.func89 rfl Tryz.ntmps89 Tryz.results89 ?_
  simp only [go_sem, acondK_bool, avS, a1, q1, q2, t2]
  exact mustF _ ((post_fin (nice_s _)).2 hR)
 have good : (decide (v.kind = 1) || decide (v.kind = 2)) = true → Does 89 [.ptr x.m 0, avS 7 name max a b body els] A x (emitR m1 v).rs := by
  intro hq
  cases hr : emitR m1 v with
  | ok m2 =>
    rw [hr] at em
    obtain ⟨D, e1, e2, e3⟩ := em
    obtain ⟨k1, k2⟩ := keep_fin (f := 89) (v := .tuple []) nice_t hS e2 (a3.trans e3)
    refine ⟨_, ?_, k1, k2⟩
    have e := fun B => finR (f := 89) (A := A) (B := B) nice_t
    cases q1 : decide (v.kind = 1) with
    | true =>
      rw [kC Tryz.func89 rfl Tryz.ntmps89 Tryz.results89]
      simp only [go_sem, acondK_bool, avS, a1, q1, t1, e1, e]
    | false =>
      have q2 : decide (v.kind = 2) = true := by rw [q1] at hq; simpa using hq
      rw [kC Tryz.func89 rfl Tryz.ntmps89 Tryz.results89]
      simp only [go_sem, acondK_bool, avS, a1, q1, q2, t1, e1, e]
  | stop z mF =>
    rw [hr] at em
    obtain ⟨D, e2, e3, e1⟩ := em
    obtain ⟨k1, k2⟩ := keep_fin (f := 89) (v := z.av) (nice_s _) hS e2 (a3.trans e3)
    refine ⟨_, k1, k2, fun R hR => ?_⟩
    have no := pcl_no pxNo (e1 (fun _ _ => True) trivial)
    cases q1 : decide (v.kind = 1) with
    | true =>
      refine pC Tryz.func89 rfl Tryz.ntmps89 Tryz.results89 ?_
      simp only [go_sem, acondK_bool, avS, a1, q1, t1, no]
      exact e1 _ ((post_fin (nice_s _)).2 hR)
    | false =>
      have q2 : decide (v.kind = 2) = true := by rw [q1] at hq; simpa using hq
      refine pC Tryz.func89 rfl Tryz.ntmps89 Tryz.results89 ?_
      simp only [go_sem, acondK_bool, avS, a1, q1, q2, t1, no]
      exact e1 _ ((post_fin (nice_s _)).2 hR)
 unfold mustR
 cases hq : (decide (v.kind = 1) || decide (v.kind = 2)) with
 | true => exact good hq
 | false => exact bad hq
theorem st4_stop {A : AHeap} {x : Ids} {m mF : Mc} {n0 : Nat} (hS : HS A x m) (hm : MOk m n0) (name : Bytes) (max : Int) (a b : E) (body els : List Stm) (hn : n0 + nodE a ≤ 1099511627776) (he : EvalsTo x a) {z : Stp} (hv : evE a m = .stop z mF) :
  Does 89 [.ptr x.m 0, avS 4 name max a b body els] A x (.stop z mF) := by
 have ev := he A m n0 hS hm hn
 rw [hv] at ev
 obtain ⟨B, a2, a3, a1⟩ := ev
 obtain ⟨k1, k2⟩ := keep_fin (f := 89) (v := z.av) (nice_s _) hS a2 a3
 refine ⟨_, k1, k2, fun R hR => ?_⟩
 have no : acl C 123 [.ptr x.m 0, E.av a] A = none := pcl_no pxNo (a1 (fun _ _ => True) trivial)
 simp only [E.av, eV] at a1 no
 refine pC Tryz.func89 rfl Tryz.ntmps89 Tryz.results89 ?_
 simp only [go_sem, acondK_bool, avS, no]
 exact a1 _ ((post_fin (nice_s _)).2 hR)
theorem st4_ok {A : AHeap} {x : Ids} {m m1 : Mc} {n0 : Nat} (hS : HS A x m) (hm : MOk m n0) (hw : m1.writes.length ≤ 1099511627776) (hf : m1.fw.length ≤ 1099511627776) (name : Bytes) (max : Int) (a b : E) (body els : List Stm) (hn : n0 + nodE a ≤ 1099511627776) (he : EvalsTo x a) {v : Vl} (hk : v.s.length ≤ 1099511627776) (hv : evE a m = .ok v m1) :
  Does 89 [.ptr x.m 0, avS 4 name max a b body els] A x (mustR (decide (v.kind = 2)) m1 (storeR m1 v.s zeroV)).rs := by
 have ev := he A m n0 hS hm hn
 rw [hv] at ev
 obtain ⟨B, a1, a2, a3⟩ := ev
 have t1 := mustT B
 have t2 := mustN B
 have em := storeP a2 v.s zeroV hk hw hf
 rw [← storeR_rs] at em
 simp only [Vl.av, zeroV] at a1 em
 simp only [E.av, eV] at a1
 have bad : (decide (v.kind = 2)) = false → Does 89 [.ptr x.m 0, avS 4 name max a b body els] A x (.stop (abt 1009) m1) := by
  intro hq
  have q1 := hq
  obtain ⟨k1, k2⟩ := keep_fin (f := 89) (v := (abt 1009).av) (nice_s _) hS a2 a3
  refine ⟨_, k1, k2, fun R hR => ?_⟩
  refine pC Tryz.func89 rfl Tryz.ntmps89 Tryz.results89 ?_
  simp only [go_sem, acondK_bool, avS, a1, q1, t2]
  exact mustF _ ((post_fin (nice_s _)).2 hR)
 have good : (decide (v.kind = 2)) = true → Does 89 [.ptr x.m 0, avS 4 name max a b body els] A x (storeR m1 v.s zeroV).rs := by
  intro hq
  cases hr : storeR m1 v.s zeroV with
  | ok m2 =>
    rw [show storeR m1 v.s ⟨0, 0, []⟩ = _ from hr] at em
    obtain ⟨D, e1, e2, e3⟩ := em
    obtain ⟨k1, k2⟩ := keep_fin (f := 89) (v := .tuple []) nice_t hS e2 (a3.trans e3)
    refine ⟨_, ?_, k1, k2⟩
    have e := fun B => finR (f := 89) (A := A) (B := B) nice_t
    have q1 := hq
    rw [kC Tryz.func89 rfl Tryz.ntmps89 Tryz.results89]
    simp only [go_sem, acondK_bool, avS, a1, q1, t1, e1, e]
  | stop z mF =>
    rw [show storeR m1 v.s ⟨0, 0, []⟩ = _ from hr] at em
    obtain ⟨D, e2, e3, e1⟩ := em
    obtain ⟨k1, k2⟩ := keep_fin (f := 89) (v := z.av) (nice_s _) hS e2 (a3.trans e3)
    refine ⟨_, k1, k2, fun R hR => ?_⟩
    have no := pcl_no pxNo (e1 (fun _ _ => True) trivial)
    have q1 := hq
    refine pC Tryz.func89 rfl Tryz.ntmps89 Tryz.results89 ?_
    simp only [go_sem, acondK_bool, avS, a1, q1, t1, no]
    exact e1 _ ((post_fin (nice_s _)).2 hR)
 unfold mustR
 cases hq : (decide (v.kind = 2)) with
 | true => exact good hq
 | false => exact bad hq
theorem st3_stop {A : AHeap} {x : Ids} {m mF : Mc} {n0 : Nat} (hS : HS A x m) (hm : MOk m n0) (name : Bytes) (max : Int) (a b : E) (body els : List Stm) (hn : n0 + nodE a ≤ 1099511627776) (he : EvalsTo x a) {z : Stp} (hv : evE a m = .stop z mF) :
  Does 89 [.ptr x.m 0, avS 3 name max a b body els] A x (.stop z mF) := by
 have ev := he A m n0 hS hm hn
 rw [hv] at ev
 obtain ⟨B, a2, a3, a1⟩ := ev
 obtain ⟨k1, k2⟩ := keep_fin (f := 89) (v := z.av) (nice_s _) hS a2 a3
 refine ⟨_, k1, k2, fun R hR => ?_⟩
 have no : acl C 123 [.ptr x.m 0, E.av a] A = none := pcl_no pxNo (a1 (fun _ _ => True) trivial)
 simp only [E.av, eV] at a1 no
 refine pC Tryz.func89 rfl Tryz.ntmps89 Tryz.results89 ?_
 simp only [go_sem, acondK_bool, avS, no]
 exact a1 _ ((post_fin (nice_s _)).2 hR)
theorem st3_stopB {A : AHeap} {x : Ids} {m m1 mF : Mc} {n0 n1 : Nat} (hS : HS A x m) (hm : MOk m n0) (hm1 : MOk m1 n1) (name : Bytes) (max : Int) (a b : E) (body els : List Stm) (hn : n0 + nodE a ≤ 1099511627776) (hn1 : n1 + nodE b ≤ 1099511627776) (he : EvalsTo x a) (hb : EvalsTo x b) {v : Vl} {z : Stp} (hv : evE a m = .ok v m1) (hw : evE b m1 = .stop z mF) :
  Does 89 [.ptr x.m 0, avS 3 name max a b body els] A x (.stop z mF) := by
 have ev := he A m n0 hS hm hn
 rw [hv] at ev
 obtain ⟨B, b1, b2, b3⟩ := ev
 have ew := hb B m1 n1 b2 hm1 hn1
 rw [hw] at ew
 obtain ⟨D, a2, a3, a1⟩ := ew
 obtain ⟨k1, k2⟩ := keep_fin (f := 89) (v := z.av) (nice_s _) hS a2 (b3.trans a3)
 refine ⟨_, k1, k2, fun R hR => ?_⟩
 have no : acl C 123 [.ptr x.m 0, E.av b] B = none := pcl_no pxNo (a1 (fun _ _ => True) trivial)
 simp only [E.av, eV, Vl.av] at a1 no b1
 refine pC Tryz.func89 rfl Tryz.ntmps89 Tryz.results89 ?_
 simp only [go_sem, acondK_bool, avS, b1, no]
 exact a1 _ ((post_fin (nice_s _)).2 hR)
theorem st5_stop {A : AHeap} {x : Ids} {m mF : Mc} {n0 : Nat} (hS : HS A x m) (hm : MOk m n0) (name : Bytes) (max : Int) (a b : E) (body els : List Stm) (hn : n0 + nodE a ≤ 1099511627776) (he : EvalsTo x a) {z : Stp} (hv : evE a m = .stop z mF) :
  Does 89 [.ptr x.m 0, avS 5 name max a b body els] A x (.stop z mF) := by
 have ev := he A m n0 hS hm hn
 rw [hv] at ev
 obtain ⟨B, a2, a3, a1⟩ := ev
 obtain ⟨k1, k2⟩ := keep_fin (f := 89) (v := z.av) (nice_s _) hS a2 a3
 refine ⟨_, k1, k2, fun R hR => ?_⟩
 have no : acl C 123 [.ptr x.m 0, E.av a] A = none := pcl_no pxNo (a1 (fun _ _ => True) trivial)
 simp only [E.av, eV] at a1 no
 refine pC Tryz.func89 rfl Tryz.ntmps89 Tryz.results89 ?_
 simp only [go_sem, acondK_bool, avS, no]
 exact a1 _ ((post_fin (nice_s _)).2 hR)
theorem st3_ok {A : AHeap} {x : Ids} {m m1 m2 : Mc} {n0 n1 : Nat} (hS : HS A x m) (hm : MOk m n0) (hm1 : MOk m1 n1) (hw : m2.writes.length ≤ 1099511627776) (hf : m2.fw.length ≤ 1099511627776) (name : Bytes) (max : Int) (a b : E) (body els : List Stm) (hn : n0 + nodE a ≤ 1099511627776) (hn1 : n1 + nodE b ≤ 1099511627776) (he : EvalsTo x a) (hb : EvalsTo x b) {u v : Vl} (hk : u.s.length ≤ 1099511627776) (hu : evE a m = .ok u m1) (hv : evE b m1 = .ok v m2) :
  Does 89 [.ptr x.m 0, avS 3 name max a b body els] A x (mustR (decide (u.kind = 2) && (decide (v.kind = 1) || decide (v.kind = 2))) m2 (storeR m2 u.s v)).rs := by
 have ev := he A m n0 hS hm hn
 rw [hu] at ev
 obtain ⟨B0, b1, b2, b3⟩ := ev
 have ew := hb B0 m1 n1 b2 hm1 hn1
 rw [hv] at ew
 obtain ⟨B, a1, a2, a3'⟩ := ew
 have a3 := b3.trans a3'
 have t1 := mustT B
 have t2 := mustN B
 have em := storeP a2 u.s v hk hw hf
 rw [← storeR_rs] at em
 simp only [Vl.av] at a1 b1 em
 simp only [E.av, eV] at a1 b1
 have bad : (decide (u.kind = 2) && (decide (v.kind = 1) || decide (v.kind = 2))) = false → Does 89 [.ptr x.m 0, avS 3 name max a b body els] A x (.stop (abt 1009) m2) := by
  intro hq
  obtain ⟨k1, k2⟩ := keep_fin (f := 89) (v := (abt 1009).av) (nice_s _) hS a2 a3
  refine ⟨_, k1, k2, fun R hR => ?_⟩
  cases q0 : decide (u.kind = 2) with
  | false =>
    refine pC Tryz.func89 rfl Tryz.ntmps89 Tryz.results89 ?_
    simp only [go_sem, acondK_bool, avS, a1, b1, q0, t2]
    exact mustF _ ((post_fin (nice_s _)).2 hR)
  | true =>
    have q1 : decide (v.kind = 1) = false := by cases h : decide (v.kind = 1) <;> simp_all
    have q2 : decide (v.kind = 2) = false := by cases h : decide (v.kind = 2) <;> simp_all
    refine pC Tryz.func89 rfl Tryz.ntmps89 Tryz.results89 ?_
    simp only [go_sem, acondK_bool, avS, a1, b1, q0, q1, q2, t2]
    exact mustF _ ((post_fin (nice_s _)).2 hR)
 have good : (decide (u.kind = 2) && (decide (v.kind = 1) || decide (v.kind = 2))) = true → Does 89 [.ptr x.m 0, avS 3 name max a b body els] A x (storeR m2 u.s v).rs := by
  intro hq
  have q0 : decide (u.kind = 2) = true := by cases h : decide (u.kind = 2) <;> simp_all
  cases hr : storeR m2 u.s v with
  | ok m3 =>
    rw [hr] at em
    obtain ⟨D, e1, e2, e3⟩ := em
    obtain ⟨k1, k2⟩ := keep_fin (f := 89) (v := .tuple []) nice_t hS e2 (a3.trans e3)
    refine ⟨_, ?_, k1, k2⟩
    have e := fun B => finR (f := 89) (A := A) (B := B) nice_t
    cases q1 : decide (v.kind = 1) with
    | true =>
      rw [kC Tryz.func89 rfl Tryz.ntmps89 Tryz.results89]
      simp only [go_sem, acondK_bool, avS, a1, b1, q0, q1, t1, e1, e]
    | false =>
      have q2 : decide (v.kind = 2) = true := by rw [q0, q1] at hq; simpa using hq
      rw [kC Tryz.func89 rfl Tryz.ntmps89 Tryz.results89]
      simp only [go_sem, acondK_bool, avS, a1, b1, q0, q1, q2, t1, e1, e]
  | stop z mF =>
    rw [hr] at em
    obtain ⟨D, e2, e3, e1⟩ := em
    obtain ⟨k1, k2⟩ := keep_fin (f := 89) (v := z.av) (nice_s _) hS e2 (a3.trans e3)
    refine ⟨_, k1, k2, fun R hR => ?_⟩
    have no := pcl_no pxNo (e1 (fun _ _ => True) trivial)
    cases q1 : decide (v.kind = 1) with
    | true =>
      refine pC Tryz.func89 rfl Tryz.ntmps89 Tryz.results89 ?_
      simp only [go_sem, acondK_bool, avS, a1, b1, q0, q1, t1, no]
      exact e1 _ ((post_fin (nice_s _)).2 hR)
    | false =>
      have q2 : decide (v.kind = 2) = true := by rw [q0, q1] at hq; simpa using hq
      refine pC Tryz.func89 rfl Tryz.ntmps89 Tryz.results89 ?_
      simp only [go_sem, acondK_bool, avS, a1, b1, q0, q1, q2, t1, no]
      exact e1 _ ((post_fin (nice_s _)).2 hR)
 unfold mustR
 cases hq : (decide (u.kind = 2) && (decide (v.kind = 1) || decide (v.kind = 2))) with
 | true => exact good hq
 | false => exact bad hq
end Go.Proofs.YtpbdjgdmhfibmaaGreatDoor
namespace Go.Proofs.YtpbdjgdmhfibmaaGreatDoor
open Go.Abs
mutual
def stW (S : Nat) : Stm → Prop
 | .mk _ _ _ a b body els => litE a ∧ litE b ∧ nodE a + nodE b ≤ S ∧ slW S body ∧ slW S els
def slW (S : Nat) : List Stm → Prop
 | [] => True
 | x :: l => stW S x ∧ slW S l
end
theorem slW_mem {S : Nat} : ∀ {l : List Stm} {x : Stm}, slW S l → x ∈ l → stW S x
 | y :: l, x, h, hx => by
   simp only [slW] at h
   rcases List.mem_cons.1 hx with rfl | hx
   ·exact h.1
   ·exact slW_mem h.2 hx
theorem XI.mokR {S : Nat} {m : Mc} {j : Nat} (h : XI S m j) : MOk m m.reads.length := ⟨h.vars, h.own, h.get, h.state, h.fr, Nat.le_refl _⟩
theorem XI.rdl {S : Nat} {m : Mc} {j : Nat} (h : XI S m j) : m.reads.length + S * j ≤ S * 16385 := by
 have h1 := h.reads
 have h2 : S * m.steps.toNat ≤ S * 16385 := Nat.mul_le_mul_left S (by have := h.s1; have := h.s0; omega)
 omega
theorem XI.wrl {S : Nat} {m : Mc} {j : Nat} (h : XI S m j) : m.writes.length + j ≤ 16385 := by
 have h1 := h.writes
 have := h.s1; have := h.s0
 omega
theorem MOk.at {m : Mc} {a : Nat} (h : MOk m a) : MOk m m.reads.length := ⟨h.vars, h.own, h.get, h.state, h.fr, Nat.le_refl _⟩
structure XQ (S : Nat) (m : Mc) (r : Nat) : Prop where
 base : XI S m 0
 reads : m.reads.length + r ≤ S * m.steps.toNat
 writes : m.writes.length + 1 ≤ m.steps.toNat
 steps : m.steps ≤ 16384
theorem XQ.of {S : Nat} {m : Mc} (h : XI S m 1) (hs : m.steps ≤ 16384) : XQ S m S := ⟨h.less, by have := h.reads; omega, h.writes, hs⟩
theorem XQ.le {S : Nat} {m : Mc} {r t : Nat} (h : XQ S m r) (ht : t ≤ r) : XQ S m t := ⟨h.base, by have := h.reads; omega, h.writes, h.steps⟩
theorem XQ.ev {S : Nat} {m : Mc} {r : Nat} (h : XQ S m r) {e : E} (hl : litE e) (hr : nodE e ≤ r) :
  match evE e m with
  | .ok v q => VOk v ∧ XQ S q (r - nodE e)
  | .stop _ q => XI S q 0 := by
 have h1 := ev_ok e m _ hl h.base.mokR
 have h2 := ev_same e m
 have key : ∀ q, SameR m q → q.reads.length ≤ m.reads.length + nodE e → XQ S q (r - nodE e) := by
  intro q hq hn
  have hR := h.reads
  have hb := h.base
  refine ⟨?_, ?_, ?_, ?_⟩
  ·rw [hq]
   exact ⟨hb.vars, hb.own, hb.get, hb.state, hb.fr, hb.fw, hb.out, hb.s0, hb.s1, by simp only; omega, hb.writes⟩
  ·rw [hq]; simp only; omega
  ·rw [hq]; exact h.writes
  ·rw [hq]; exact h.steps
 cases hv : evE e m with
 | ok v q =>
   rw [hv] at h1 h2
   exact ⟨h1.1, key q h2 h1.2.reads⟩
 | stop z q =>
   rw [hv] at h1 h2
   exact (key q h2 (MOk.reads h1)).base
theorem XI.setV {S : Nat} {m : Mc} {j : Nat} (h : XI S m j) (k : Bytes) {v : Vl} (hv : VOk v) : XI S { m with vars := setE m.vars k v } j := by
 refine ⟨fun i w hw => ?_, h.own, h.get, h.state, h.fr, h.fw, h.out, h.s0, h.s1, h.reads, h.writes⟩
 simp only [look_set] at hw
 split at hw
 ·cases hw; exact hv
 ·exact h.vars i w hw
theorem XQ.setV {S : Nat} {m : Mc} {j : Nat} (h : XQ S m j) (k : Bytes) {v : Vl} (hv : VOk v) : XQ S { m with vars := setE m.vars k v } j :=
 ⟨h.base.setV k hv, h.reads, h.writes, h.steps⟩
def Rx.fine (S : Nat) : Rx → Prop
 | .ok m => XI S m 0 ∧ m.steps ≤ 16384
 | .stop _ m => XI S m 0
theorem fine_bind {S : Nat} {r : Rx} {f : Mc → Rx} (h : r.fine S) (hf : ∀ m, XI S m 0 → m.steps ≤ 16384 → (f m).fine S) : (r.bind f).fine S := by
 cases r with
 | ok m => exact hf m h.1 h.2
 | stop z m => exact h
theorem fine_ev {S : Nat} {m : Mc} {r : Nat} (h : XQ S m r) {e : E} (hl : litE e) (hr : nodE e ≤ r) {f : Vl → Mc → Rx} (hf : ∀ v q, evE e m = .ok v q → VOk v → XQ S q (r - nodE e) → (f v q).fine S) : ((evE e m).bind f).fine S := by
 have h1 := h.ev hl hr
 cases hv : evE e m with
 | ok v q => rw [hv] at h1; exact hf v q hv h1.1 h1.2
 | stop z q => rw [hv] at h1; exact h1
theorem fine_must {S : Nat} {b : Bool} {m : Mc} {k : Rx} (h : XI S m 0) (hk : k.fine S) : (mustR b m k).fine S := by
 unfold mustR
 split
 ·exact hk
 ·exact h
theorem fine_store {S : Nat} {m : Mc} {r : Nat} (h : XQ S m r) (k : Bytes) {v : Vl} (hv : VOk v) : (storeR m k v).fine S := by
 unfold storeR
 split
 ·split
  ·exact h.base
  ·have hb := h.base
   refine ⟨⟨hb.vars, fun i w hw => ?_, hb.get, hb.state, hb.fr, hb.fw, hb.out, hb.s0, hb.s1, hb.reads, ?_⟩, h.steps⟩
   ·simp only [look_set] at hw
    split at hw
    ·cases hw; exact hv
    ·exact hb.own i w hw
   ·have := withS_len m.writes k
    have := h.writes
    simp only; omega
 ·exact h.base
theorem fine_emit {S : Nat} {m : Mc} {r : Nat} (h : XQ S m r) (v : Vl) : (emitR m v).fine S := by
 unfold emitR
 have hb := h.base
 split
 ·exact hb
 ·rename_i hq
  refine ⟨⟨hb.vars, hb.own, hb.get, hb.state, hb.fr, hb.fw, ?_, hb.s0, hb.s1, hb.reads, hb.writes⟩, h.steps⟩
  have := hb.out
  simp only [decide_eq_true_eq] at hq
  simp only [List.length_append, List.length_cons, List.length_nil]
  omega
theorem fine_tick {S : Nat} {m : Mc} (h : XI S m 0) (hs : m.steps ≤ 16384) {f : Mc → Rx} (hf : ∀ q, tickR m = .ok q → XI S q 1 → q.steps ≤ 16384 → (f q).fine S) : ((tickR m).bind f).fine S := by
 have h1 := tick_ok h hs
 cases ht : tickR m with
 | ok q => rw [ht] at h1; exact hf q ht h1.1 h1.2
 | stop z q => rw [ht] at h1; exact h1
theorem zeroV_ok : VOk zeroV := ⟨i64_0, i64_0, by simp [zeroV]⟩
theorem fine_loop {S : Nat} (f : Mc → Rx) (hf : ∀ q, XI S q 0 → q.steps ≤ 16384 → (f q).fine S) (name : Bytes) (hi : Int) (hh : i64 hi) : ∀ (n : Nat) (i : Int) (m : Mc), i64 i → i + n ≤ hi → XI S m 0 → m.steps ≤ 16384 → (loopR f name n i m).fine S
 | 0, _, m, _, _, h, hs => ⟨h, hs⟩
 | n + 1, i, m, h1, h2, h, hs => by
   simp only [loopR]
   refine fine_tick h hs fun q _ hq hqs => ?_
   refine fine_bind (hf _ (hq.setV name (v := ⟨1, i, []⟩) ⟨by unfold i64; simp, h1, by simp⟩).less hqs) fun m2 hm2 hs2 => ?_
   refine fine_loop f hf name hi hh n (i + 1) m2 ?_ (by omega) hm2 hs2
   unfold i64 at *
   omega
mutual
theorem exS_fine (S : Nat) : ∀ (s : Stm) (m : Mc), stW S s → XQ S m S → (exS s m).fine S
 | .mk op name max a b body els, m, hw, hm => by
   simp only [stW] at hw
   obtain ⟨la, lb, hn, wb, we⟩ := hw
   have ih : ∀ q, XI S q 0 → q.steps ≤ 16384 → (exL body q).fine S := fun q h1 h2 => exL_fine S body q wb h1 h2
   have ih2 : ∀ q, XI S q 0 → q.steps ≤ 16384 → (exL els q).fine S := fun q h1 h2 => exL_fine S els q we h1 h2
   simp only [exS]
   split
   ·exact fine_ev hm la (by omega) fun v q _ hv hq => ⟨(hq.setV name hv).base, hq.steps⟩
   split
   ·exact fine_ev hm la (by omega) fun u q _ hu hq => fine_ev hq lb (by omega) fun v q2 _ hv hq2 => fine_must hq2.base (fine_store hq2 _ hv)
   split
   ·exact fine_ev hm la (by omega) fun u q _ hu hq => fine_must hq.base (fine_store hq _ zeroV_ok)
   split
   ·refine fine_ev hm la (by omega) fun u q _ hu hq => fine_must hq.base ?_
    split
    ·exact ih q hq.base hq.steps
    ·exact ih2 q hq.base hq.steps
   split
   ·refine fine_ev hm la (by omega) fun u q _ hu hq => fine_ev hq lb (by omega) fun v q2 _ hv hq2 => fine_must hq2.base ?_
    split
    ·exact hq2.base
    ·have hu' := hu.n
     have hv' := hv.n
     by_cases hlt : u.n < v.n
     ·exact fine_loop _ (fun q h1 h2 => ih q h1 h2) name v.n hv' _ _ _ hu' (by omega) hq2.base hq2.steps
     ·rw [show (v.n - u.n).toNat = 0 by omega]
      exact ⟨hq2.base, hq2.steps⟩
   split
   ·exact fine_ev hm la (by omega) fun u q _ hu hq => fine_must hq.base (fine_emit hq _)
   split
   ·exact hm.base
   ·exact ⟨hm.base, hm.steps⟩
theorem exL_fine (S : Nat) : ∀ (l : List Stm) (m : Mc), slW S l → XI S m 0 → m.steps ≤ 16384 → (exL l m).fine S
 | [], m, _, h, hs => ⟨h, hs⟩
 | x :: l, m, hw, h, hs => by
   simp only [slW] at hw
   simp only [exL]
   exact fine_tick h hs fun q _ hq hqs => fine_bind (exS_fine S x q hw.1 (XQ.of hq hqs)) fun m2 h2 hs2 => exL_fine S l m2 hw.2 h2 hs2
end
attribute [local congr] ite_congr
set_option maxRecDepth 100000
theorem st5_ok {A : AHeap} {x : Ids} {m m1 : Mc} {n0 : Nat} (hS : HS A x m) (hm : MOk m n0) (name : Bytes) (max : Int) (a b : E) (body els : List Stm) (hn : n0 + nodE a ≤ 1099511627776) (he : EvalsTo x a) {v : Vl} (hv : evE a m = .ok v m1) {rb re : Rx}
  (hb : ∀ B, HS B x m1 → Does 51 [.ptr x.m 0, .d (.slice (body.map Stm.row))] B x rb.rs) (hl : ∀ B, HS B x m1 → Does 51 [.ptr x.m 0, .d (.slice (els.map Stm.row))] B x re.rs) :
  Does 89 [.ptr x.m 0, avS 5 name max a b body els] A x (mustR (decide (v.kind = 3)) m1 (if decide (v.n = 1) then rb else re)).rs := by
 have ev := he A m n0 hS hm hn
 rw [hv] at ev
 obtain ⟨B, a1, a2, a3⟩ := ev
 have t1 := mustT B
 have t2 := mustN B
 have hb := hb B a2
 have hl := hl B a2
 simp only [Vl.av] at a1
 simp only [E.av, eV] at a1
 unfold mustR
 cases q0 : decide (v.kind = 3) with
 | false =>
   obtain ⟨k1, k2⟩ := keep_fin (f := 89) (v := (abt 1009).av) (nice_s _) hS a2 a3
   refine ⟨_, k1, k2, fun R hR => ?_⟩
   refine pC Tryz.func89 rfl Tryz.ntmps89 Tryz.results89 ?_
   simp only [go_sem, acondK_bool, avS, a1, q0, t2]
   exact mustF _ ((post_fin (nice_s _)).2 hR)
 | true =>
 simp only [if_true]
 cases q1 : decide (v.n = 1) with
 | true =>
   simp only [if_true]
   cases rb with
   | ok m3 =>
     obtain ⟨D, e1, e2, e3⟩ := hb
     obtain ⟨k1, k2⟩ := keep_fin (f := 89) (v := .tuple []) nice_t hS e2 (a3.trans e3)
     refine ⟨_, ?_, k1, k2⟩
     have e := fun B => finR (f := 89) (A := A) (B := B) nice_t
     rw [kC Tryz.func89 rfl Tryz.ntmps89 Tryz.results89]
     simp only [go_sem, acondK_bool, avS, a1, q0, q1, t1, e1, e]
   | stop z mF =>
     obtain ⟨D, e2, e3, e1⟩ := hb
     obtain ⟨k1, k2⟩ := keep_fin (f := 89) (v := z.av) (nice_s _) hS e2 (a3.trans e3)
     refine ⟨_, k1, k2, fun R hR => ?_⟩
     have no := pcl_no pxNo (e1 (fun _ _ => True) trivial)
     refine pC Tryz.func89 rfl Tryz.ntmps89 Tryz.results89 ?_
     simp only [go_sem, acondK_bool, avS, a1, q0, q1, t1, no]
     exact e1 _ ((post_fin (nice_s _)).2 hR)
 | false =>
   simp only [Bool.false_eq_true, if_false]
   cases re with
   | ok m3 =>
     obtain ⟨D, e1, e2, e3⟩ := hl
     obtain ⟨k1, k2⟩ := keep_fin (f := 89) (v := .tuple []) nice_t hS e2 (a3.trans e3)
     refine ⟨_, ?_, k1, k2⟩
     have e := fun B => finR (f := 89) (A := A) (B := B) nice_t
     rw [kC Tryz.func89 rfl Tryz.ntmps89 Tryz.results89]
     simp only [go_sem, acondK_bool, avS, a1, q0, q1, t1, e1, e]
   | stop z mF =>
     obtain ⟨D, e2, e3, e1⟩ := hl
     obtain ⟨k1, k2⟩ := keep_fin (f := 89) (v := z.av) (nice_s _) hS e2 (a3.trans e3)
     refine ⟨_, k1, k2, fun R hR => ?_⟩
     have no := pcl_no pxNo (e1 (fun _ _ => True) trivial)
     refine pC Tryz.func89 rfl Tryz.ntmps89 Tryz.results89 ?_
     simp only [go_sem, acondK_bool, avS, a1, q0, q1, t1, no]
     exact e1 _ ((post_fin (nice_s _)).2 hR)
theorem st6_any {A : AHeap} {x : Ids} {m : Mc} (hS : HS A x m) (name : Bytes) (max : Int) (a b : E) (body els : List Stm) {r : Rx}
  (hl : Does 126 [.ptr x.m 0, avS 6 name max a b body els] A x r.rs) : Does 89 [.ptr x.m 0, avS 6 name max a b body els] A x r.rs := by
 simp only [avS] at hl
 cases r with
 | ok m3 =>
   obtain ⟨D, e1, e2, e3⟩ := hl
   obtain ⟨k1, k2⟩ := keep_fin (f := 89) (v := .tuple []) nice_t hS e2 e3
   refine ⟨_, ?_, k1, k2⟩
   have e := fun B => finR (f := 89) (A := A) (B := B) nice_t
   rw [kC Tryz.func89 rfl Tryz.ntmps89 Tryz.results89]
   simp only [go_sem, acondK_bool, avS, e1, e]
 | stop z mF =>
   obtain ⟨D, e2, e3, e1⟩ := hl
   obtain ⟨k1, k2⟩ := keep_fin (f := 89) (v := z.av) (nice_s _) hS e2 e3
   refine ⟨_, k1, k2, fun R hR => ?_⟩
   have no := pcl_no pxNo (e1 (fun _ _ => True) trivial)
   refine pC Tryz.func89 rfl Tryz.ntmps89 Tryz.results89 ?_
   simp only [go_sem, acondK_bool, avS, no]
   exact e1 _ ((post_fin (nice_s _)).2 hR)
def sav (s : Stm) : AV := avS s.op s.name s.max s.a s.b s.body s.els
def StmDoes (x : Ids) (S : Nat) (s : Stm) : Prop := ∀ (B : AHeap) (q : Mc), HS B x q → XQ S q S → Does 89 [.ptr x.m 0, sav s] B x (exS s q).rs
structure BlkI (A : AHeap) (x : Ids) (S : Nat) (l : List Stm) (r : Rx) (suf : List Stm) (i : Nat) (mi : Mc) (B : AHeap) : Prop where
 pre : ∃ pre, l = pre ++ suf ∧ pre.length = i
 hs : HS B x mi
 keep : Keep A B x
 xi : XI S mi 0
 st : mi.steps ≤ 16384
 ev : exL suf mi = r
theorem stm_row (s : Stm) : s.row = [.int .i64 s.op, .str s.name, .int .i64 s.max, .int .i64 s.a.op, .int .i64 s.a.n, .str s.a.s, .slice (s.a.args.map E.row), .int .i64 s.b.op, .int .i64 s.b.n, .str s.b.s, .slice (s.b.args.map E.row), .slice (s.body.map Stm.row), .slice (s.els.map Stm.row)] := Stm.row_eq s
theorem block_ok {A : AHeap} {x : Ids} {S : Nat} {m mF : Mc} (hS : HS A x m) (l : List Stm) (hlen : l.length ≤ 4194303) (hw : slW S l) (hx : XI S m 0) (hst : m.steps ≤ 16384) (ih : ∀ s ∈ l, StmDoes x S s) (he : exL l m = .ok mF) :
  Does 51 [.ptr x.m 0, .d (.slice (l.map Stm.row))] A x (.ok (.tuple []) mF) := by
 rw [does_ok]
 have hG : ∃ G : Option (AV × AHeap) → Prop, G = fun r => ∃ A', r = some (.tuple [], A') ∧ HS A' x mF ∧ Keep A A' x := ⟨_, rfl⟩
 obtain ⟨G, hG⟩ := hG
 suffices h : G (acl C 51 [.ptr x.m 0, .d (.slice (l.map Stm.row))] A) by rw [hG] at h; exact h
 rw [kC Tryz.func51 rfl Tryz.ntmps51 Tryz.results51]
 simp only [go_sem, acondK_bool]
 refine loop_good (fun σ : List Stm × Nat × Mc × AHeap => [(8, .v (.d (.int .i64 (σ.2.1 : Nat)))), (0, .v (.ptr x.m 0)), (6, .v (.d (.slice (l.map Stm.row)))), (7, .v (.d (.int .i64 (l.length : Nat))))])
  (fun σ => σ.2.2.2) (fun σ => σ.1.length) (fun σ => BlkI A x S l (.ok mF) σ.1 σ.2.1 σ.2.2.1 σ.2.2.2) (l, 0, m, A) rfl rfl
  ⟨⟨[], rfl, rfl⟩, hS, Keep.refl A x, hx, hst, he⟩ ?_
 rintro ⟨suf, i, mi, B⟩ ⟨⟨pre, hp, hpl⟩, hB, hk, hxi, hsi, hev⟩ next
 simp only at hp hpl hB hk hxi hsi hev next
 cases suf with
 | nil =>
   simp only [exL, Rx.ok.injEq] at hev
   subst hev
   have e0 : decide ((i : Int) < (l.length : Nat)) = false := by rw [hp, ← hpl]; simp
   obtain ⟨k1, k2⟩ := keep_fin (f := 51) nice_t hS hB hk
   have fin : G (some (.tuple [], finH 51 A (.tuple []) B)) := by rw [hG]; exact ⟨_, rfl, k1, k2⟩
   have fr := finR (f := 51) (A := A) (B := B) nice_t
   simp only [go_sem, acondK_bool, e0, fr]
   exact fin
 | cons s suf =>
   simp only [exL] at hev
   have ht := tickP hB
   rw [← tickR_rs] at ht
   have tk := tick_ok hxi hsi
   cases hr : tickR mi with
   | stop z mz => rw [hr] at hev; simp [Rx.bind] at hev
   | ok q =>
     rw [hr] at hev ht tk
     obtain ⟨B1, a1, a2, a3⟩ := ht
     have hq := XQ.of tk.1 tk.2
     have hsm : s ∈ l := by rw [hp]; simp
     have hd := ih s hsm B1 q a2 hq
     have fn := exS_fine S s q (slW_mem hw hsm) hq
     simp only [Rx.bind] at hev
     cases hr2 : exS s q with
     | stop z mz => rw [hr2] at hev; simp at hev
     | ok m2 =>
       rw [hr2] at hev hd fn
       obtain ⟨B2, b1, b2, b3⟩ := hd
       have nx := next (suf, i + 1, m2, B2) (by simp) ⟨⟨pre ++ [s], by rw [hp]; simp, by simp [hpl]⟩, b2, hk.trans (a3.trans b3), fn.1, fn.2, hev⟩
       have hil : i < l.length := by rw [hp, ← hpl]; simp
       have e3 : (l.map Stm.row)[i]? = some s.row := by rw [hp, ← hpl]; simp
       have e4 : decide ((i : Int) < (l.length : Nat)) = true := by simp; omega
       have e5 : IntKind.i64.wrap ((i : Nat) + 1) = ((i + 1 : Nat) : Int) := by rw [wrap_in] <;> omega
       rw [stm_row] at e3
       simp only [sav, avS] at b1
       simp only [go_sem, acondK_bool, e3, e4, e5, a1, b1, nx]
theorem block_stop {A : AHeap} {x : Ids} {S : Nat} {m mF : Mc} {z : Stp} (hS : HS A x m) (l : List Stm) (hlen : l.length ≤ 4194303) (hw : slW S l) (hx : XI S m 0) (hst : m.steps ≤ 16384) (ih : ∀ s ∈ l, StmDoes x S s) (he : exL l m = .stop z mF) :
  Does 51 [.ptr x.m 0, .d (.slice (l.map Stm.row))] A x (.stop z mF) := by
 refine does_stop ?_
 have hG : ∃ G : PR, G = fun y B => y = z.av ∧ HS B x mF ∧ Keep A B x := ⟨_, rfl⟩
 obtain ⟨G, hG⟩ := hG
 suffices h : pcl C px 51 [.ptr x.m 0, .d (.slice (l.map Stm.row))] A G by rw [hG] at h; exact h
 have fin : ∀ B2 nt rs, HS B2 x mF → Keep A B2 x → (⟨⟨C, 51, nt, rs, A⟩, px, G⟩ : PF).post z.av B2 := by
  intro B2 nt rs q1 q2
  refine (post_fin (nice_s z)).2 ?_
  obtain ⟨k1, k2⟩ := keep_fin (f := 51) (nice_s z) hS q1 q2
  rw [hG]
  exact ⟨rfl, k1, k2⟩
 refine pC Tryz.func51 rfl Tryz.ntmps51 Tryz.results51 ?_
 simp only [go_sem, acondK_bool]
 refine p_loop_meas (fun σ : List Stm × Nat × Mc × AHeap => [(8, .v (.d (.int .i64 (σ.2.1 : Nat)))), (0, .v (.ptr x.m 0)), (6, .v (.d (.slice (l.map Stm.row)))), (7, .v (.d (.int .i64 (l.length : Nat))))])
  (fun σ => σ.2.2.2) (fun σ => σ.1.length) (fun σ => BlkI A x S l (.stop z mF) σ.1 σ.2.1 σ.2.2.1 σ.2.2.2) (l, 0, m, A) ?_ rfl
  ⟨⟨[], rfl, rfl⟩, hS, Keep.refl A x, hx, hst, he⟩ ?_
 ·simp only [go_sem, acondK_bool, firstRegion]
 rintro ⟨suf, i, mi, B⟩ ⟨⟨pre, hp, hpl⟩, hB, hk, hxi, hsi, hev⟩ next
 simp only at hp hpl hB hk hxi hsi hev next
 cases suf with
 | nil => simp [exL] at hev
 | cons s suf =>
   simp only [exL] at hev
   have ht := tickP hB
   rw [← tickR_rs] at ht
   have tk := tick_ok hxi hsi
   have hil : i < l.length := by rw [hp, ← hpl]; simp
   have e3 : (l.map Stm.row)[i]? = some s.row := by rw [hp, ← hpl]; simp
   have e4 : decide ((i : Int) < (l.length : Nat)) = true := by simp; omega
   have e5 : IntKind.i64.wrap ((i : Nat) + 1) = ((i + 1 : Nat) : Int) := by rw [wrap_in] <;> omega
   rw [stm_row] at e3
   cases hr : tickR mi with
   | stop y my =>
     rw [hr] at hev ht
     simp only [Rx.bind, Rx.stop.injEq] at hev
     obtain ⟨rfl, rfl⟩ := hev
     obtain ⟨B1, a2, a3, a1⟩ := ht
     have no := pcl_no pxNo (a1 (fun _ _ => True) trivial)
     have f2 := fun nt rs => fin B1 nt rs a2 (hk.trans a3)
     simp only [go_sem, acondK_bool, e3, e4, no]
     exact a1 _ (f2 _ _)
   | ok q =>
     rw [hr] at hev ht tk
     obtain ⟨B1, a1, a2, a3⟩ := ht
     have hq := XQ.of tk.1 tk.2
     have hsm : s ∈ l := by rw [hp]; simp
     have hd := ih s hsm B1 q a2 hq
     have fn := exS_fine S s q (slW_mem hw hsm) hq
     simp only [Rx.bind] at hev
     cases hr2 : exS s q with
     | stop y my =>
       rw [hr2] at hev hd
       simp only [Rx.stop.injEq] at hev
       obtain ⟨rfl, rfl⟩ := hev
       obtain ⟨B2, b2, b3, b1⟩ := hd
       have no := pcl_no pxNo (b1 (fun _ _ => True) trivial)
       have f2 := fun nt rs => fin B2 nt rs b2 (hk.trans (a3.trans b3))
       simp only [sav, avS] at b1 no
       simp only [go_sem, acondK_bool, e3, e4, a1, no]
       exact b1 _ (f2 _ _)
     | ok m2 =>
       rw [hr2] at hev hd fn
       obtain ⟨B2, b1, b2, b3⟩ := hd
       have nx := fun env' => next (suf, i + 1, m2, B2) env' (by simp) ⟨⟨pre ++ [s], by rw [hp]; simp, by simp [hpl]⟩, b2, hk.trans (a3.trans b3), fn.1, fn.2, hev⟩
       simp only [sav, avS] at b1
       simp only [go_sem, acondK_bool, e3, e4, e5, a1, b1]
       refine nx _ ?_
       simp only [go_sem, acondK_bool, firstRegion]
theorem blkRunP {A : AHeap} {x : Ids} {S : Nat} {m : Mc} (hS : HS A x m) (l : List Stm) (hlen : l.length ≤ 4194303) (hw : slW S l) (hx : XI S m 0) (hst : m.steps ≤ 16384) (ih : ∀ s ∈ l, StmDoes x S s) :
  Does 51 [.ptr x.m 0, .d (.slice (l.map Stm.row))] A x (exL l m).rs := by
 cases he : exL l m with
 | ok mF => exact block_ok hS l hlen hw hx hst ih he
 | stop z mF => exact block_stop hS l hlen hw hx hst ih he
def BodyDoes (x : Ids) (S : Nat) (body : List Stm) : Prop := ∀ (B : AHeap) (q : Mc), HS B x q → XI S q 0 → q.steps ≤ 16384 → Does 51 [.ptr x.m 0, .d (.slice (body.map Stm.row))] B x (exL body q).rs
structure LoopI (A : AHeap) (x : Ids) (S : Nat) (body : List Stm) (name : Bytes) (hi : Int) (r : Rx) (i : Int) (mi : Mc) (B : AHeap) : Prop where
 hs : HS B x mi
 keep : Keep A B x
 xi : XI S mi 0
 st : mi.steps ≤ 16384
 ib : i64 i
 ev : loopR (fun m' => exL body m') name (hi - i).toNat i mi = r
theorem loop_end {f : Mc → Rx} {name : Bytes} {hi i : Int} {m : Mc} (h : ¬ i < hi) : loopR f name (hi - i).toNat i m = .ok m := by
 rw [show (hi - i).toNat = 0 by omega]; rfl
theorem loop_next {f : Mc → Rx} {name : Bytes} {hi i : Int} {m : Mc} (h : i < hi) : loopR f name (hi - i).toNat i m = (tickR m).bind fun m1 => (f { m1 with vars := setE m1.vars name ⟨1, i, []⟩ }).bind fun m2 => loopR f name (hi - (i + 1)).toNat (i + 1) m2 := by
 rw [show (hi - i).toNat = (hi - (i + 1)).toNat + 1 by omega]; rfl
theorem loop_ok {A : AHeap} {x : Ids} {S : Nat} {m m1 m2 mF : Mc} {n0 n1 : Nat} (hS : HS A x m) (hm : MOk m n0) (hm1 : MOk m1 n1) (name : Bytes) (max : Int) (a b : E) (body els : List Stm) (hn : n0 + nodE a ≤ 1099511627776) (hn1 : n1 + nodE b ≤ 1099511627776) (he : EvalsTo x a) (hb : EvalsTo x b) {u v : Vl} (hu : evE a m = .ok u m1) (hv : evE b m1 = .ok v m2)
  (hui : i64 u.n) (hvi : i64 v.n) (hx : XI S m2 0) (hst : m2.steps ≤ 16384) (hw : slW S body) (hbd : BodyDoes x S body) (k0 : decide (u.kind = 1) = true) (k1 : decide (v.kind = 1) = true) (km : manyR u.n v.n max = false)
  (hl : loopR (fun m' => exL body m') name (v.n - u.n).toNat u.n m2 = .ok mF) :
  Does 126 [.ptr x.m 0, avS 6 name max a b body els] A x (.ok (.tuple []) mF) := by
 have ev := he A m n0 hS hm hn
 rw [hu] at ev
 obtain ⟨B0, b1, b2, b3⟩ := ev
 have ew := hb B0 m1 n1 b2 hm1 hn1
 rw [hv] at ew
 obtain ⟨B, a1, a2, a3'⟩ := ew
 have a3 := b3.trans a3'
 have t1 := mustT B
 simp only [Vl.av] at a1 b1
 simp only [E.av, eV] at a1 b1
 rw [does_ok]
 have hG : ∃ G : Option (AV × AHeap) → Prop, G = fun r => ∃ A', r = some (.tuple [], A') ∧ HS A' x mF ∧ Keep A A' x := ⟨_, rfl⟩
 obtain ⟨G, hG⟩ := hG
 suffices h : G (acl C 126 [.ptr x.m 0, avS 6 name max a b body els] A) by rw [hG] at h; exact h
 rw [kC Tryz.func126 rfl Tryz.ntmps126 Tryz.results126]
 unfold manyR at km
 have two : decide (u.n < v.n) = false ∨ (decide (u.n < v.n) = true ∧ decide (IntKind.u64.wrap max < IntKind.u64.wrap (IntKind.u64.wrap v.n - IntKind.u64.wrap u.n)) = false) := by
  cases q2 : decide (u.n < v.n) with
  | false => exact .inl rfl
  | true => rw [q2] at km; exact .inr ⟨rfl, by simpa using km⟩
 rcases two with q2 | ⟨q2, q3⟩
 ·simp only [go_sem, acondK_bool, avS, a1, b1, k0, k1, t1, q2]
  refine loop_good (fun σ : Int × Mc × AHeap => [(6, .v (.d (.int .i64 σ.1))), (3, .box [.d (.int .i64 6), .d (.str name), .d (.int .i64 max), .d (.int .i64 a.op), .d (.int .i64 a.n), .d (.str a.s), .d (.slice (a.args.map E.row)), .d (.int .i64 b.op), .d (.int .i64 b.n), .d (.str b.s), .d (.slice (b.args.map E.row)), .d (.slice (body.map Stm.row)), .d (.slice (els.map Stm.row))]), (0, .v (.ptr x.m 0)), (5, .box [.d (.int .i64 v.kind), .d (.int .i64 v.n), .d (.str v.s)])])
   (fun σ => σ.2.2) (fun σ => (v.n - σ.1).toNat) (fun σ => LoopI A x S body name v.n (.ok mF) σ.1 σ.2.1 σ.2.2) (u.n, m2, B) rfl rfl
   ⟨a2, a3, hx, hst, hui, hl⟩ ?_
  rintro ⟨i, mi, D⟩ ⟨hD, hk, hxi, hsi, hi, hev⟩ next
  simp only at hD hk hxi hsi hi hev next
  by_cases hlt : i < v.n
  ·have e0 : decide (i < v.n) = true := by simp [hlt]
   rw [loop_next hlt] at hev
   have ht := tickP hD
   rw [← tickR_rs] at ht
   have tk := tick_ok hxi hsi
   cases hr : tickR mi with
   | stop z mz => rw [hr] at hev; simp [Rx.bind] at hev
   | ok q =>
     rw [hr] at hev ht tk
     obtain ⟨D1, d1, d2, d3⟩ := ht
     obtain ⟨ov, rv, wv, h'⟩ := d2
     have hq := h'.updV (setE q.vars name ⟨1, i, []⟩)
     have hqx := (tk.1.setV name (v := ⟨1, i, []⟩) ⟨by unfold i64; simp, hi, by simp⟩).less
     have hbk := hbd _ _ ⟨_, _, _, hq⟩ hqx tk.2
     have fn := exL_fine S body _ hw hqx tk.2
     simp only [Rx.bind] at hev
     cases hr2 : exL body { q with vars := setE q.vars name ⟨1, i, []⟩ } with
     | stop z mz => rw [hr2] at hev; simp at hev
     | ok m4 =>
       rw [hr2] at hev hbk fn
       obtain ⟨D2, g1, g2, g3⟩ := hbk
       have nx := next (i + 1, m4, D2) (by simp only; omega) ⟨g2, hk.trans (d3.trans ((h'.keepV _).trans g3)), fn.1, fn.2, by unfold i64 at *; omega, hev⟩
       have hc' := h'.cell
       unfold mcell at hc'
       have hvB := h'.vars
       have up := aupd_mapE name ⟨1, i, []⟩ q.vars
       have pl : aplainV (.agg [.d (.int .i64 1), .d (.int .i64 i), .d (.str [])]) = true := rfl
       simp only [Vl.av] at up
       have e5 : IntKind.i64.wrap (i + 1) = i + 1 := by unfold i64 at *; rw [wrap_in] <;> omega
       simp only [go_sem, acondK_bool, k_drawn_t, e0, d1, hc', hvB, up, pl, amuM]
       refine (congrArg G (ctE_ok (by repeat (first | exact MLe.nil | apply MLe.qq | apply MLe.q | apply MLe.o | apply MLe.b | apply MLe.l)) (by kernel_rfl))).mpr ?_
       simp only [go_sem, acondK_bool, e5, g1, nx]
  ·have e0 : decide (i < v.n) = false := by simp [hlt]
   rw [loop_end hlt] at hev
   simp only [Rx.ok.injEq] at hev
   subst hev
   obtain ⟨k1, k2⟩ := keep_fin (f := 126) nice_t hS hD hk
   have fin : G (some (.tuple [], finH 126 A (.tuple []) D)) := by rw [hG]; exact ⟨_, rfl, k1, k2⟩
   have fr := finR (f := 126) (A := A) (B := D) nice_t
   simp only [go_sem, acondK_bool, e0, fr]
   exact fin
 ·simp only [go_sem, acondK_bool, avS, a1, b1, k0, k1, t1, q2, q3]
  refine loop_good (fun σ : Int × Mc × AHeap => [(6, .v (.d (.int .i64 σ.1))), (3, .box [.d (.int .i64 6), .d (.str name), .d (.int .i64 max), .d (.int .i64 a.op), .d (.int .i64 a.n), .d (.str a.s), .d (.slice (a.args.map E.row)), .d (.int .i64 b.op), .d (.int .i64 b.n), .d (.str b.s), .d (.slice (b.args.map E.row)), .d (.slice (body.map Stm.row)), .d (.slice (els.map Stm.row))]), (0, .v (.ptr x.m 0)), (5, .box [.d (.int .i64 v.kind), .d (.int .i64 v.n), .d (.str v.s)])])
   (fun σ => σ.2.2) (fun σ => (v.n - σ.1).toNat) (fun σ => LoopI A x S body name v.n (.ok mF) σ.1 σ.2.1 σ.2.2) (u.n, m2, B) rfl rfl
   ⟨a2, a3, hx, hst, hui, hl⟩ ?_
  rintro ⟨i, mi, D⟩ ⟨hD, hk, hxi, hsi, hi, hev⟩ next
  simp only at hD hk hxi hsi hi hev next
  by_cases hlt : i < v.n
  ·have e0 : decide (i < v.n) = true := by simp [hlt]
   rw [loop_next hlt] at hev
   have ht := tickP hD
   rw [← tickR_rs] at ht
   have tk := tick_ok hxi hsi
   cases hr : tickR mi with
   | stop z mz => rw [hr] at hev; simp [Rx.bind] at hev
   | ok q =>
     rw [hr] at hev ht tk
     obtain ⟨D1, d1, d2, d3⟩ := ht
     obtain ⟨ov, rv, wv, h'⟩ := d2
     have hq := h'.updV (setE q.vars name ⟨1, i, []⟩)
     have hqx := (tk.1.setV name (v := ⟨1, i, []⟩) ⟨by unfold i64; simp, hi, by simp⟩).less
     have hbk := hbd _ _ ⟨_, _, _, hq⟩ hqx tk.2
     have fn := exL_fine S body _ hw hqx tk.2
     simp only [Rx.bind] at hev
     cases hr2 : exL body { q with vars := setE q.vars name ⟨1, i, []⟩ } with
     | stop z mz => rw [hr2] at hev; simp at hev
     | ok m4 =>
       rw [hr2] at hev hbk fn
       obtain ⟨D2, g1, g2, g3⟩ := hbk
       have nx := next (i + 1, m4, D2) (by simp only; omega) ⟨g2, hk.trans (d3.trans ((h'.keepV _).trans g3)), fn.1, fn.2, by unfold i64 at *; omega, hev⟩
       have hc' := h'.cell
       unfold mcell at hc'
       have hvB := h'.vars
       have up := aupd_mapE name ⟨1, i, []⟩ q.vars
       have pl : aplainV (.agg [.d (.int .i64 1), .d (.int .i64 i), .d (.str [])]) = true := rfl
       simp only [Vl.av] at up
       have e5 : IntKind.i64.wrap (i + 1) = i + 1 := by unfold i64 at *; rw [wrap_in] <;> omega
       simp only [go_sem, acondK_bool, k_drawn_t, e0, d1, hc', hvB, up, pl, amuM]
       refine (congrArg G (ctE_ok (by repeat (first | exact MLe.nil | apply MLe.qq | apply MLe.q | apply MLe.o | apply MLe.b | apply MLe.l)) (by kernel_rfl))).mpr ?_
       simp only [go_sem, acondK_bool, e5, g1, nx]
  ·have e0 : decide (i < v.n) = false := by simp [hlt]
   rw [loop_end hlt] at hev
   simp only [Rx.ok.injEq] at hev
   subst hev
   obtain ⟨k1, k2⟩ := keep_fin (f := 126) nice_t hS hD hk
   have fin : G (some (.tuple [], finH 126 A (.tuple []) D)) := by rw [hG]; exact ⟨_, rfl, k1, k2⟩
   have fr := finR (f := 126) (A := A) (B := D) nice_t
   simp only [go_sem, acondK_bool, e0, fr]
   exact fin
theorem loop_stop {A : AHeap} {x : Ids} {S : Nat} {m m1 m2 mF : Mc} {z : Stp} {n0 n1 : Nat} (hS : HS A x m) (hm : MOk m n0) (hm1 : MOk m1 n1) (name : Bytes) (max : Int) (a b : E) (body els : List Stm) (hn : n0 + nodE a ≤ 1099511627776) (hn1 : n1 + nodE b ≤ 1099511627776) (he : EvalsTo x a) (hb : EvalsTo x b) {u v : Vl} (hu : evE a m = .ok u m1) (hv : evE b m1 = .ok v m2)
  (hui : i64 u.n) (hvi : i64 v.n) (hx : XI S m2 0) (hst : m2.steps ≤ 16384) (hw : slW S body) (hbd : BodyDoes x S body) (k0 : decide (u.kind = 1) = true) (k1 : decide (v.kind = 1) = true) (km : manyR u.n v.n max = false)
  (hl : loopR (fun m' => exL body m') name (v.n - u.n).toNat u.n m2 = .stop z mF) :
  Does 126 [.ptr x.m 0, avS 6 name max a b body els] A x (.stop z mF) := by
 have ev := he A m n0 hS hm hn
 rw [hu] at ev
 obtain ⟨B0, b1, b2, b3⟩ := ev
 have ew := hb B0 m1 n1 b2 hm1 hn1
 rw [hv] at ew
 obtain ⟨B, a1, a2, a3'⟩ := ew
 have a3 := b3.trans a3'
 have t1 := mustT B
 simp only [Vl.av] at a1 b1
 simp only [E.av, eV] at a1 b1
 refine does_stop ?_
 have hG : ∃ G : PR, G = fun y B => y = z.av ∧ HS B x mF ∧ Keep A B x := ⟨_, rfl⟩
 obtain ⟨G, hG⟩ := hG
 suffices h : pcl C px 126 [.ptr x.m 0, avS 6 name max a b body els] A G by rw [hG] at h; exact h
 have fin : ∀ B2 nt rs, HS B2 x mF → Keep A B2 x → (⟨⟨C, 126, nt, rs, A⟩, px, G⟩ : PF).post z.av B2 := by
  intro B2 nt rs q1 q2
  refine (post_fin (nice_s z)).2 ?_
  obtain ⟨k1, k2⟩ := keep_fin (f := 126) (nice_s z) hS q1 q2
  rw [hG]
  exact ⟨rfl, k1, k2⟩
 refine pC Tryz.func126 rfl Tryz.ntmps126 Tryz.results126 ?_
 unfold manyR at km
 have two : decide (u.n < v.n) = false ∨ (decide (u.n < v.n) = true ∧ decide (IntKind.u64.wrap max < IntKind.u64.wrap (IntKind.u64.wrap v.n - IntKind.u64.wrap u.n)) = false) := by
  cases q2 : decide (u.n < v.n) with
  | false => exact .inl rfl
  | true => rw [q2] at km; exact .inr ⟨rfl, by simpa using km⟩
 rcases two with q2 | ⟨q2, q3⟩
 ·exfalso
  rw [loop_end (by simpa using q2)] at hl
  cases hl
 ·simp only [go_sem, acondK_bool, avS, a1, b1, k0, k1, t1, q2, q3]
  refine p_loop_meas (fun σ : Int × Mc × AHeap => [(6, .v (.d (.int .i64 σ.1))), (3, .box [.d (.int .i64 6), .d (.str name), .d (.int .i64 max), .d (.int .i64 a.op), .d (.int .i64 a.n), .d (.str a.s), .d (.slice (a.args.map E.row)), .d (.int .i64 b.op), .d (.int .i64 b.n), .d (.str b.s), .d (.slice (b.args.map E.row)), .d (.slice (body.map Stm.row)), .d (.slice (els.map Stm.row))]), (0, .v (.ptr x.m 0)), (5, .box [.d (.int .i64 v.kind), .d (.int .i64 v.n), .d (.str v.s)])])
   (fun σ => σ.2.2) (fun σ => (v.n - σ.1).toNat) (fun σ => LoopI A x S body name v.n (.stop z mF) σ.1 σ.2.1 σ.2.2) (u.n, m2, B) ?_ rfl
   ⟨a2, a3, hx, hst, hui, hl⟩ ?_
  ·simp only [go_sem, acondK_bool, firstRegion]
  rintro ⟨i, mi, D⟩ ⟨hD, hk, hxi, hsi, hi, hev⟩ next
  simp only at hD hk hxi hsi hi hev next
  by_cases hlt : i < v.n
  ·have e0 : decide (i < v.n) = true := by simp [hlt]
   rw [loop_next hlt] at hev
   have ht := tickP hD
   rw [← tickR_rs] at ht
   have tk := tick_ok hxi hsi
   cases hr : tickR mi with
   | stop y my =>
     rw [hr] at hev ht
     simp only [Rx.bind, Rx.stop.injEq] at hev
     obtain ⟨rfl, rfl⟩ := hev
     obtain ⟨B1, c2, c3, c1⟩ := ht
     have no := pcl_no pxNo (c1 (fun _ _ => True) trivial)
     have f2 := fun nt rs => fin B1 nt rs c2 (hk.trans c3)
     simp only [go_sem, acondK_bool, e0, no]
     exact c1 _ (f2 _ _)
   | ok q =>
     rw [hr] at hev ht tk
     obtain ⟨D1, d1, d2, d3⟩ := ht
     obtain ⟨ov, rv, wv, h'⟩ := d2
     have hq := h'.updV (setE q.vars name ⟨1, i, []⟩)
     have hqx := (tk.1.setV name (v := ⟨1, i, []⟩) ⟨by unfold i64; simp, hi, by simp⟩).less
     have hbk := hbd _ _ ⟨_, _, _, hq⟩ hqx tk.2
     have fn := exL_fine S body _ hw hqx tk.2
     have hc' := h'.cell
     unfold mcell at hc'
     have hvB := h'.vars
     have up := aupd_mapE name ⟨1, i, []⟩ q.vars
     have pl : aplainV (.agg [.d (.int .i64 1), .d (.int .i64 i), .d (.str [])]) = true := rfl
     simp only [Vl.av] at up
     have e5 : IntKind.i64.wrap (i + 1) = i + 1 := by unfold i64 at *; rw [wrap_in] <;> omega
     simp only [Rx.bind] at hev
     cases hr2 : exL body { q with vars := setE q.vars name ⟨1, i, []⟩ } with
     | stop y my =>
       rw [hr2] at hev hbk
       simp only [Rx.stop.injEq] at hev
       obtain ⟨rfl, rfl⟩ := hev
       obtain ⟨D2, g2, g3, g1⟩ := hbk
       have no := pcl_no pxNo (g1 (fun _ _ => True) trivial)
       have f2 := fun nt rs => fin D2 nt rs g2 (hk.trans (d3.trans ((h'.keepV _).trans g3)))
       simp only [go_sem, acondK_bool, e0, d1]
       refine p_drawn_r ?_
       simp only [go_sem, acondK_bool, hc', hvB, up, pl, amuM]
       refine prE_ok (by repeat (first | exact MLe.nil | apply MLe.qq | apply MLe.q | apply MLe.o | apply MLe.b | apply MLe.l)) (by kernel_rfl) ?_
       simp only [go_sem, acondK_bool, no]
       exact g1 _ (f2 _ _)
     | ok m4 =>
       rw [hr2] at hev hbk fn
       obtain ⟨D2, g1, g2, g3⟩ := hbk
       have nx := fun env' => next (i + 1, m4, D2) env' (by simp only; omega) ⟨g2, hk.trans (d3.trans ((h'.keepV _).trans g3)), fn.1, fn.2, by unfold i64 at *; omega, hev⟩
       simp only [go_sem, acondK_bool, e0, d1]
       refine p_drawn_r ?_
       simp only [go_sem, acondK_bool, hc', hvB, up, pl, amuM]
       refine prE_ok (by repeat (first | exact MLe.nil | apply MLe.qq | apply MLe.q | apply MLe.o | apply MLe.b | apply MLe.l)) (by kernel_rfl) ?_
       simp only [go_sem, acondK_bool, e5, g1]
       refine nx _ ?_
       simp only [go_sem, acondK_bool, firstRegion]
  ·rw [loop_end hlt] at hev
   cases hev
theorem loop_stopA {A : AHeap} {x : Ids} {m mF : Mc} {n0 : Nat} (hS : HS A x m) (hm : MOk m n0) (name : Bytes) (max : Int) (a b : E) (body els : List Stm) (hn : n0 + nodE a ≤ 1099511627776) (he : EvalsTo x a) {z : Stp} (hv : evE a m = .stop z mF) :
  Does 126 [.ptr x.m 0, avS 6 name max a b body els] A x (.stop z mF) := by
 have ev := he A m n0 hS hm hn
 rw [hv] at ev
 obtain ⟨B, a2, a3, a1⟩ := ev
 obtain ⟨k1, k2⟩ := keep_fin (f := 126) (v := z.av) (nice_s _) hS a2 a3
 refine ⟨_, k1, k2, fun R hR => ?_⟩
 have no : acl C 123 [.ptr x.m 0, E.av a] A = none := pcl_no pxNo (a1 (fun _ _ => True) trivial)
 simp only [E.av, eV] at a1 no
 refine pC Tryz.func126 rfl Tryz.ntmps126 Tryz.results126 ?_
 simp only [go_sem, acondK_bool, avS, no]
 exact a1 _ ((post_fin (nice_s _)).2 hR)
theorem loop_stopB {A : AHeap} {x : Ids} {m m1 mF : Mc} {n0 n1 : Nat} (hS : HS A x m) (hm : MOk m n0) (hm1 : MOk m1 n1) (name : Bytes) (max : Int) (a b : E) (body els : List Stm) (hn : n0 + nodE a ≤ 1099511627776) (hn1 : n1 + nodE b ≤ 1099511627776) (he : EvalsTo x a) (hb : EvalsTo x b) {v : Vl} {z : Stp} (hv : evE a m = .ok v m1) (hw : evE b m1 = .stop z mF) :
  Does 126 [.ptr x.m 0, avS 6 name max a b body els] A x (.stop z mF) := by
 have ev := he A m n0 hS hm hn
 rw [hv] at ev
 obtain ⟨B, b1, b2, b3⟩ := ev
 have ew := hb B m1 n1 b2 hm1 hn1
 rw [hw] at ew
 obtain ⟨D, a2, a3, a1⟩ := ew
 obtain ⟨k1, k2⟩ := keep_fin (f := 126) (v := z.av) (nice_s _) hS a2 (b3.trans a3)
 refine ⟨_, k1, k2, fun R hR => ?_⟩
 have no : acl C 123 [.ptr x.m 0, E.av b] B = none := pcl_no pxNo (a1 (fun _ _ => True) trivial)
 simp only [E.av, eV, Vl.av] at a1 no b1
 refine pC Tryz.func126 rfl Tryz.ntmps126 Tryz.results126 ?_
 simp only [go_sem, acondK_bool, avS, b1, no]
 exact a1 _ ((post_fin (nice_s _)).2 hR)
theorem loop_must {A : AHeap} {x : Ids} {m m1 m2 : Mc} {n0 n1 : Nat} (hS : HS A x m) (hm : MOk m n0) (hm1 : MOk m1 n1) (name : Bytes) (max : Int) (a b : E) (body els : List Stm) (hn : n0 + nodE a ≤ 1099511627776) (hn1 : n1 + nodE b ≤ 1099511627776) (he : EvalsTo x a) (hb : EvalsTo x b) {u v : Vl} (hu : evE a m = .ok u m1) (hv : evE b m1 = .ok v m2)
  (hq : (decide (u.kind = 1) && decide (v.kind = 1)) = false) :
  Does 126 [.ptr x.m 0, avS 6 name max a b body els] A x (.stop (abt 1009) m2) := by
 have ev := he A m n0 hS hm hn
 rw [hu] at ev
 obtain ⟨B0, b1, b2, b3⟩ := ev
 have ew := hb B0 m1 n1 b2 hm1 hn1
 rw [hv] at ew
 obtain ⟨B, a1, a2, a3'⟩ := ew
 have a3 := b3.trans a3'
 have t2 := mustN B
 simp only [Vl.av] at a1 b1
 simp only [E.av, eV] at a1 b1
 obtain ⟨k1, k2⟩ := keep_fin (f := 126) (v := (abt 1009).av) (nice_s _) hS a2 a3
 refine ⟨_, k1, k2, fun R hR => ?_⟩
 cases q0 : decide (u.kind = 1) with
 | false =>
   refine pC Tryz.func126 rfl Tryz.ntmps126 Tryz.results126 ?_
   simp only [go_sem, acondK_bool, avS, a1, b1, q0, t2]
   exact mustF _ ((post_fin (nice_s _)).2 hR)
 | true =>
   have q1 : decide (v.kind = 1) = false := by rw [q0] at hq; simpa using hq
   refine pC Tryz.func126 rfl Tryz.ntmps126 Tryz.results126 ?_
   simp only [go_sem, acondK_bool, avS, a1, b1, q0, q1, t2]
   exact mustF _ ((post_fin (nice_s _)).2 hR)
theorem loop_many {A : AHeap} {x : Ids} {m m1 m2 : Mc} {n0 n1 : Nat} (hS : HS A x m) (hm : MOk m n0) (hm1 : MOk m1 n1) (name : Bytes) (max : Int) (a b : E) (body els : List Stm) (hn : n0 + nodE a ≤ 1099511627776) (hn1 : n1 + nodE b ≤ 1099511627776) (he : EvalsTo x a) (hb : EvalsTo x b) {u v : Vl} (hu : evE a m = .ok u m1) (hv : evE b m1 = .ok v m2)
  (k0 : decide (u.kind = 1) = true) (k1 : decide (v.kind = 1) = true) (km : manyR u.n v.n max = true) :
  Does 126 [.ptr x.m 0, avS 6 name max a b body els] A x (.stop (abt 1005) m2) := by
 have ev := he A m n0 hS hm hn
 rw [hu] at ev
 obtain ⟨B0, b1, b2, b3⟩ := ev
 have ew := hb B0 m1 n1 b2 hm1 hn1
 rw [hv] at ew
 obtain ⟨B, a1, a2, a3'⟩ := ew
 have a3 := b3.trans a3'
 have t1 := mustT B
 simp only [Vl.av] at a1 b1
 simp only [E.av, eV] at a1 b1
 obtain ⟨h1, h2⟩ := keep_fin (f := 126) (v := (abt 1005).av) (nice_s _) hS a2 a3
 refine ⟨_, h1, h2, fun R hR => ?_⟩
 unfold manyR at km
 have q2 : decide (u.n < v.n) = true := by cases h : decide (u.n < v.n) <;> simp_all
 have q3 : decide (IntKind.u64.wrap max < IntKind.u64.wrap (IntKind.u64.wrap v.n - IntKind.u64.wrap u.n)) = true := by rw [q2] at km; simpa using km
 refine pC Tryz.func126 rfl Tryz.ntmps126 Tryz.results126 ?_
 simp only [go_sem, acondK_bool, avS, a1, b1, k0, k1, t1, q2, q3]
 exact abortP ((post_fin (nice_s _)).2 hR)
theorem loopP {A : AHeap} {x : Ids} {S : Nat} {m : Mc} (hS : HS A x m) (hx : XQ S m S) (hSb : S ≤ 33554432) (name : Bytes) (max : Int) (a b : E) (body els : List Stm) (la : litE a) (lb : litE b) (hn : nodE a + nodE b ≤ S) (he : EvalsTo x a) (hb : EvalsTo x b) (hw : slW S body) (hbd : BodyDoes x S body) :
  Does 126 [.ptr x.m 0, avS 6 name max a b body els] A x (exS (.mk 6 name max a b body els) m).rs := by
 have big : S * 16385 ≤ 1099511627776 := Nat.le_trans (Nat.mul_le_mul_right 16385 hSb) (by decide)
 have r1 := hx.base.rdl
 have e1 := hx.ev la (by omega)
 have b1 : m.reads.length + nodE a ≤ 1099511627776 := by have := hx.reads; have := Nat.mul_le_mul_left S (show m.steps.toNat ≤ 16385 by have := hx.steps; omega); omega
 have ex6 : exS (.mk 6 name max a b body els) m = (evE a m).bind fun lo m1 => (evE b m1).bind fun hi m2 => mustR (decide (lo.kind = 1) && decide (hi.kind = 1)) m2 (if manyR lo.n hi.n max then .stop (abt 1005) m2 else loopR (fun m' => exL body m') name (hi.n - lo.n).toNat lo.n m2) := by
  simp only [exS]; rfl
 rw [ex6]
 cases hu : evE a m with
 | stop z q => exact loop_stopA hS hx.base.mokR name max a b body els b1 he hu
 | ok u m1 =>
   rw [hu] at e1
   obtain ⟨vu, x1⟩ := e1
   have e2 := x1.ev lb (by omega)
   have b2 : m1.reads.length + nodE b ≤ 1099511627776 := by have := x1.reads; have := Nat.mul_le_mul_left S (show m1.steps.toNat ≤ 16385 by have := x1.steps; omega); omega
   simp only [Rv.bind]
   cases hv : evE b m1 with
   | stop z q => exact loop_stopB hS hx.base.mokR x1.base.mokR name max a b body els b1 b2 he hb hu hv
   | ok v m2 =>
     rw [hv] at e2
     obtain ⟨vv, x2⟩ := e2
     simp only [Rv.bind]
     unfold mustR
     cases q0 : (decide (u.kind = 1) && decide (v.kind = 1)) with
     | false => exact loop_must hS hx.base.mokR x1.base.mokR name max a b body els b1 b2 he hb hu hv q0
     | true =>
       simp only [Bool.and_eq_true] at q0
       simp only [if_true]
       cases km : manyR u.n v.n max with
       | true => exact loop_many hS hx.base.mokR x1.base.mokR name max a b body els b1 b2 he hb hu hv q0.1 q0.2 km
       | false =>
         simp only [Bool.false_eq_true, if_false]
         cases hl : loopR (fun m' => exL body m') name (v.n - u.n).toNat u.n m2 with
         | ok mF => exact loop_ok hS hx.base.mokR x1.base.mokR name max a b body els b1 b2 he hb hu hv vu.n vv.n x2.base x2.steps hw hbd q0.1 q0.2 km hl
         | stop z mF => exact loop_stop hS hx.base.mokR x1.base.mokR name max a b body els b1 b2 he hb hu hv vu.n vv.n x2.base x2.steps hw hbd q0.1 q0.2 km hl
end Go.Proofs.YtpbdjgdmhfibmaaGreatDoor
namespace Go.Proofs.YtpbdjgdmhfibmaaGreatDoor
open Go.Abs
set_option maxRecDepth 100000
theorem stmtP (x : Ids) {S : Nat} (hSb : S ≤ 33554432) : ∀ s : Stm, s.Ok → stW S s → StmDoes x S s := by
 intro s
 induction s using Stm.ind with
 | h op name max a b body els ih1 ih2 =>
   intro hok hw A m hS hx
   have hw' := hw
   simp only [stW] at hw'
   obtain ⟨la, lb, hn, wb, we⟩ := hw'
   obtain ⟨oa, ob, l1, l2, o1, o2⟩ : a.Ok ∧ b.Ok ∧ body.length ≤ 4194303 ∧ els.length ≤ 4194303 ∧ (∀ x, x ∈ body → Stm.Ok x) ∧ (∀ x, x ∈ els → Stm.Ok x) := by
    cases hok; exact ⟨by assumption, by assumption, by assumption, by assumption, by assumption, by assumption⟩
   have he := evalP x a oa la
   have hb := evalP x b ob lb
   have bdy : BodyDoes x S body := fun B q h1 h2 h3 => blkRunP h1 body l1 wb h2 h3 (fun s hs => ih1 s hs (o1 s hs) (slW_mem wb hs))
   have bde : BodyDoes x S els := fun B q h1 h2 h3 => blkRunP h1 els l2 we h2 h3 (fun s hs => ih2 s hs (o2 s hs) (slW_mem we hs))
   have big : S * 16385 ≤ 1099511627776 := Nat.le_trans (Nat.mul_le_mul_right 16385 hSb) (by decide)
   have e1 := hx.ev la (by omega)
   have b1 : m.reads.length + nodE a ≤ 1099511627776 := by have := hx.reads; have := Nat.mul_le_mul_left S (show m.steps.toNat ≤ 16385 by have := hx.steps; omega); omega
   have bb : ∀ q r, XQ S q r → nodE b ≤ r → q.reads.length + nodE b ≤ 1099511627776 := fun q r h hr => by have := h.reads; have := Nat.mul_le_mul_left S (show q.steps.toNat ≤ 16385 by have := h.steps; omega); omega
   have wl : ∀ q r, XQ S q r → q.writes.length ≤ 1099511627776 := fun q r h => by have := h.writes; have := h.steps; omega
   have hav : sav (.mk op name max a b body els) = avS op name max a b body els := rfl
   rw [hav]
   have hm := hx.base.mokR
   cases h1 : decide (op = 1) with
   | true =>
     obtain rfl := of_decide_eq_true h1
     have ex : exS (.mk 1 name max a b body els) m = (evE a m).bind fun v m1 => .ok { m1 with vars := setE m1.vars name v } := by simp only [exS]; rfl
     rw [ex]
     cases hu : evE a m with
     | ok v m1 => exact st1_ok hS hm name max a b body els b1 he hu
     | stop z q => exact st1_stop hS hm name max a b body els b1 he hu
   | false =>
   cases h2 : decide (op = 2) with
   | true =>
     obtain rfl := of_decide_eq_true h2
     have ex : exS (.mk 2 name max a b body els) m = (evE a m).bind fun v m1 => .ok { m1 with vars := setE m1.vars name v } := by simp only [exS]; rfl
     rw [ex]
     cases hu : evE a m with
     | ok v m1 => exact st2_ok hS hm name max a b body els b1 he hu
     | stop z q => exact st2_stop hS hm name max a b body els b1 he hu
   | false =>
   cases h3 : decide (op = 3) with
   | true =>
     obtain rfl := of_decide_eq_true h3
     have ex : exS (.mk 3 name max a b body els) m = (evE a m).bind fun k m1 => (evE b m1).bind fun v m2 => mustR (decide (k.kind = 2) && (decide (v.kind = 1) || decide (v.kind = 2))) m2 (storeR m2 k.s v) := by simp only [exS]; rfl
     rw [ex]
     cases hu : evE a m with
     | stop z q => exact st3_stop hS hm name max a b body els b1 he hu
     | ok u m1 =>
       rw [hu] at e1
       obtain ⟨vu, x1⟩ := e1
       have e2 := x1.ev lb (by omega)
       simp only [Rv.bind]
       cases hv : evE b m1 with
       | stop z q => exact st3_stopB hS hm x1.base.mokR name max a b body els b1 (bb _ _ x1 (by omega)) he hb hu hv
       | ok v m2 =>
         rw [hv] at e2
         obtain ⟨vv, x2⟩ := e2
         exact st3_ok hS hm x1.base.mokR (wl _ _ x2) x2.base.fw name max a b body els b1 (bb _ _ x1 (by omega)) he hb (Nat.le_trans vu.s (by decide)) hu hv
   | false =>
   cases h4 : decide (op = 4) with
   | true =>
     obtain rfl := of_decide_eq_true h4
     have ex : exS (.mk 4 name max a b body els) m = (evE a m).bind fun k m1 => mustR (decide (k.kind = 2)) m1 (storeR m1 k.s zeroV) := by simp only [exS]; rfl
     rw [ex]
     cases hu : evE a m with
     | stop z q => exact st4_stop hS hm name max a b body els b1 he hu
     | ok u m1 =>
       rw [hu] at e1
       obtain ⟨vu, x1⟩ := e1
       exact st4_ok hS hm (wl _ _ x1) x1.base.fw name max a b body els b1 he (Nat.le_trans vu.s (by decide)) hu
   | false =>
   cases h5 : decide (op = 5) with
   | true =>
     obtain rfl := of_decide_eq_true h5
     have ex : exS (.mk 5 name max a b body els) m = (evE a m).bind fun c m1 => mustR (decide (c.kind = 3)) m1 (if decide (c.n = 1) then exL body m1 else exL els m1) := by simp only [exS]; rfl
     rw [ex]
     cases hu : evE a m with
     | stop z q => exact st5_stop hS hm name max a b body els b1 he hu
     | ok u m1 =>
       rw [hu] at e1
       obtain ⟨vu, x1⟩ := e1
       exact st5_ok hS hm name max a b body els b1 he hu (fun B h => bdy B m1 h x1.base x1.steps) (fun B h => bde B m1 h x1.base x1.steps)
   | false =>
   cases h6 : decide (op = 6) with
   | true =>
     obtain rfl := of_decide_eq_true h6
     exact st6_any hS name max a b body els (loopP hS hx hSb name max a b body els la lb hn he hb wb bdy)
   | false =>
   cases h7 : decide (op = 7) with
   | true =>
     obtain rfl := of_decide_eq_true h7
     have ex : exS (.mk 7 name max a b body els) m = (evE a m).bind fun v m1 => mustR (decide (v.kind = 1) || decide (v.kind = 2)) m1 (emitR m1 v) := by simp only [exS]; rfl
     rw [ex]
     cases hu : evE a m with
     | stop z q => exact st7_stop hS hm name max a b body els b1 he hu
     | ok u m1 =>
       rw [hu] at e1
       obtain ⟨vu, x1⟩ := e1
       exact st7_ok hS hm x1.base.out name max a b body els b1 he hu
   | false =>
   cases h8 : decide (op = 8) with
   | true =>
     obtain rfl := of_decide_eq_true h8
     exact st8_stop hS name max a b body els
   | false =>
     have ex : exS (.mk op name max a b body els) m = .ok m := by
      simp only [exS, h1, h2, h3, h4, h5, h6, h7, h8, Bool.or_false, Bool.false_eq_true, if_false]
     rw [ex]
     exact st0_ok hS op name max a b body els h1 h2 h3 h4 h5 h6 h7 h8
theorem blockAll (x : Ids) {S : Nat} (hSb : S ≤ 33554432) (l : List Stm) (hlen : l.length ≤ 4194303) (hok : ∀ s ∈ l, s.Ok) (hw : slW S l) {A : AHeap} {m : Mc} (hS : HS A x m) (hx : XI S m 0) (hst : m.steps ≤ 16384) :
  Does 51 [.ptr x.m 0, .d (.slice (l.map Stm.row))] A x (exL l m).rs :=
 blkRunP hS l hlen hw hx hst fun s hs => stmtP x hSb s (hok s hs) (slW_mem hw hs)
end Go.Proofs.YtpbdjgdmhfibmaaGreatDoor
namespace Go.Proofs.YtpbdjgdmhfibmaaGreatDoor
open Go.Abs Go.RowKit Go.Shelf
set_option maxRecDepth 100000
theorem cmp_okE : CallOk1 Tryz.prog 176 (cmpFn Lib.compareBytes) := by
 intro xs A x A' hx
 unfold cmpFn at hx
 split at hx
 case h_2 => cases hx
 rename_i a b
 cases hx
 refine ⟨⟨_, Tryz.func176, by kernel_rfl, by kernel_rfl⟩, fun W g vs hw hr => ?_⟩
 obtain ⟨v, u, rfl, hv, hu⟩ := two_args hr
 cases hv with
 | d _ _ hd =>
 cases hu with
 | d _ _ hs =>
 cases hd with
 | str sa =>
 cases hs with
 | str sb =>
 refine Calls.mono (Any.bytealg_CompareString lay_Lays_n213 sa sb W) ?_
 rintro e W' ⟨rfl, rfl⟩
 exact ⟨_, g, rfl, .d _ _ (.int .i64 _), hw, .refl _ _ _⟩
def tabCs : Array Value := (Lib.pow10Tab.map fun z => Value.int .u64 z).toArray
def IT : World → Gh → Prop := VarI Tryz.prog "internal/strconv.uint64pow10" tabCs
theorem fmt_ok : CallOk1I Tryz.prog IT 212 (fmtFn Lib.itoa) := by
 intro xs A x A' hx
 unfold fmtFn at hx
 split at hx
 case h_2 => cases hx
 rename_i n b hcl
 split at hx
 case isFalse => cases hx
 rename_i hn
 obtain ⟨rfl, hn0, hn1⟩ := hn
 cases hx
 refine ⟨⟨_, Tryz.func212, by kernel_rfl, by kernel_rfl⟩, fun W g vs hi hw hr => ?_⟩
 obtain ⟨g1, r1, w1, e1⟩ := acleanVs_rel hw hr
 rw [hcl] at r1
 obtain ⟨v, u, rfl, hv, hu⟩ := two_args r1
 cases hv with
 | d _ _ hd =>
 cases hu with
 | d _ _ hs =>
 cases hd
 cases hs
 refine Calls.mono (Any.strconv_FormatInt_10 lay_LaysM_n173 n hn0 hn1 W hi.1) ?_
 rintro e W' ⟨rfl, k, os, hW⟩
 have hh : ∀ b, b < W.heap.size → W'.heap[b]? = W.heap[b]? := fun b h => by rw [hW]; exact Array.getElem?_append_left h
 have hs : W.heap.size ≤ W'.heap.size := by
  rw [hW]
  show W.heap.size ≤ (W.heap ++ os).size
  rw [Array.size_append]
  exact Nat.le_add_right _ _
 have hrest : Go.Abs.Rest W W' := by rw [hW]; exact ⟨rfl, rfl⟩
 exact ⟨_, g1, rfl, .d _ _ (.str ⟨(Lib.itoa n).toArray⟩), w1.grown hs hh hrest, e1.trans (Ev.grown w1 hs hh hrest)⟩
theorem extOkI : ∀ f h, C.ext f = some h → CallOk1I C.P IT f h := by
 intro f h hf
 have key : C.ext f = bif extL.contains f then some failFn else extT f := rfl
 rw [key] at hf
 cases h1 : extL.contains f with
 | true =>
   rw [h1] at hf
   cases hf
   intro xs A x A' hx
   cases hx
 | false =>
 rw [h1] at hf
 simp only [cond_false] at hf
 unfold extT at hf
 cases h2 : Nat.beq f 170 with
 | true =>
   rw [h2] at hf
   cases hf
   obtain rfl : f = 170 := Nat.eq_of_beq_eq_true h2
   exact with_ok.I
 | false =>
 cases h3 : Nat.beq f 176 with
 | true =>
   rw [h2, h3] at hf
   cases hf
   obtain rfl : f = 176 := Nat.eq_of_beq_eq_true h3
   exact cmp_okE.I
 | false =>
 cases h4 : Nat.beq f 212 with
 | true =>
   rw [h2, h3, h4] at hf
   cases hf
   obtain rfl : f = 212 := Nat.eq_of_beq_eq_true h4
   exact fmt_ok
 | false =>
 cases h5 : Nat.beq f 31 with
 | true =>
   rw [h2, h3, h4, h5] at hf
   cases hf
   obtain rfl : f = 31 := Nat.eq_of_beq_eq_true h5
   exact clone_ok.I
 | false => rw [h2, h3, h4, h5] at hf; cases hf
theorem IT_closed : EvClosed IT := varI_closed _ _ _
theorem abort_walk (n : Int) (W : World) : Calls Tryz.prog 122 #[.int .i64 n] W fun e W' => e = .panicked [{ v := .iface 106 (.agg #[.int .i64 2, .int .i64 n, .slice none 0 0, .string ⟨#[]⟩]), recovered := false }] ∧ W' = W := by
 go_enter Tryz.func122, Tryz.ntmps122
 go_wp2
 first | exact ⟨rfl, rfl, rfl⟩ | exact ⟨rfl, rfl⟩ | skip
theorem restart_walk (s : ByteArray) (W : World) : Calls Tryz.prog 169 #[.string s] W fun e W' => e = .panicked [{ v := .iface 106 (.agg #[.int .i64 3, .int .i64 0, .slice none 0 0, .string s]), recovered := false }] ∧ W' = W := by
 go_enter Tryz.func169, Tryz.ntmps169
 go_wp2
 first | exact ⟨rfl, rfl, rfl⟩ | exact ⟨rfl, rfl⟩ | skip
end Go.Proofs.YtpbdjgdmhfibmaaGreatDoor
