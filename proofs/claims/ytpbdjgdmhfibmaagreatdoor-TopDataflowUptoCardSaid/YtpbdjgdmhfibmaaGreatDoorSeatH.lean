/- The machine does a loop. -/
import Derived.Tactics2
import Derived.Defers
import Derived.Recover
import Derived.Laws.Pointers
import Derived.Test.YtpbdjgdmhfibmaaGreatDoorSeatG
import Derived.Test.YtpbdjgdmhfibmaaGreatDoorSeatF
import Derived.Test.YtpbdjgdmhfibmaaGreatDoorGenD
import Derived.Test.YtpbdjgdmhfibmaaGreatDoorSeatA
import Derived.Test.YtpbdjgdmhfibmaaGreatDoorSeatC
import Derived.Test.YtpbdjgdmhfibmaaGreatDoorGenB
import Derived.Test.YtpbdjgdmhfibmaaGreatDoorSeatB
set_option linter.unusedVariables false
set_option linter.unusedSimpArgs false
set_option linter.all false
set_option linter.deprecated false
set_option linter.all false
namespace Go.Proofs.YtpbdjgdmhfibmaaGreatDoor
open Go.Abs
attribute [local congr] ite_congr
set_option maxRecDepth 100000
def BodyDoes (x : Ids) (S : Nat) (body : List Stm) : Prop := ∀ (B : AHeap) (q : Mc), HS B x q → XI S q 0 → q.steps ≤ 16384 → Does 51 [.ptr x.m 0, .d (.slice (body.map Stm.row))] B x (exL body q).rs
structure LoopI (A : AHeap) (x : Ids) (S : Nat) (body : List Stm) (name : Bytes) (hi : Int) (r : Rx) (i : Int) (mi : Mc) (B : AHeap) : Prop where
 hs : HS B x mi
 keep : Keep A B x
 xi : XI S mi 0
 st : mi.steps ≤ 16384
 ib : i64 i
 ev : loopR (fun m' => exL body m') name (hi - i).toNat i mi = r
theorem loop_end {f : Mc → Rx} {name : Bytes} {hi i : Int} {m : Mc} (h : ¬ i < hi) : loopR f name (hi - i).toNat i m = .ok m := by
 rw [show (hi - i).toNat = 0 by omega]; rfl
theorem loop_next {f : Mc → Rx} {name : Bytes} {hi i : Int} {m : Mc} (h : i < hi) : loopR f name (hi - i).toNat i m = (tickR m).bind fun m1 => (f { m1 with vars := setE m1.vars name ⟨1, i, []⟩ }).bind fun m2 => loopR f name (hi - (i + 1)).toNat (i + 1) m2 := by
 rw [show (hi - i).toNat = (hi - (i + 1)).toNat + 1 by omega]; rfl
theorem loop_ok {A : AHeap} {x : Ids} {S : Nat} {m m1 m2 mF : Mc} {n0 n1 : Nat} (hS : HS A x m) (hm : MOk m n0) (hm1 : MOk m1 n1) (name : Bytes) (max : Int) (a b : E) (body els : List Stm) (hn : n0 + nodE a ≤ 1099511627776) (hn1 : n1 + nodE b ≤ 1099511627776) (he : EvalsTo x a) (hb : EvalsTo x b) {u v : Vl} (hu : evE a m = .ok u m1) (hv : evE b m1 = .ok v m2)
  (hui : i64 u.n) (hvi : i64 v.n) (hx : XI S m2 0) (hst : m2.steps ≤ 16384) (hw : slW S body) (hbd : BodyDoes x S body) (k0 : decide (u.kind = 1) = true) (k1 : decide (v.kind = 1) = true) (km : manyR u.n v.n max = false)
  (hl : loopR (fun m' => exL body m') name (v.n - u.n).toNat u.n m2 = .ok mF) :
  Does 126 [.ptr x.m 0, avS 6 name max a b body els] A x (.ok (.tuple []) mF) := by
 have ev := he A m n0 hS hm hn
 rw [hu] at ev
 obtain ⟨B0, b1, b2, b3⟩ := ev
 have ew := hb B0 m1 n1 b2 hm1 hn1
 rw [hv] at ew
 obtain ⟨B, a1, a2, a3'⟩ := ew
 have a3 := b3.trans a3'
 have t1 := mustT B
 simp only [Vl.av] at a1 b1
 simp only [E.av, eV] at a1 b1
 rw [does_ok]
 have hG : ∃ G : Option (AV × AHeap) → Prop, G = fun r => ∃ A', r = some (.tuple [], A') ∧ HS A' x mF ∧ Keep A A' x := ⟨_, rfl⟩
 obtain ⟨G, hG⟩ := hG
 suffices h : G (acl C 126 [.ptr x.m 0, avS 6 name max a b body els] A) by rw [hG] at h; exact h
 rw [k_call (c := C) (f := 126) rfl Tryz.func126 rfl (ok 126 (by kernel_rfl)) rfl Tryz.ntmps126 Tryz.results126 (by simp)]
 unfold manyR at km
 have two : decide (u.n < v.n) = false ∨ (decide (u.n < v.n) = true ∧ decide (IntKind.u64.wrap max < IntKind.u64.wrap (IntKind.u64.wrap v.n - IntKind.u64.wrap u.n)) = false) := by
  cases q2 : decide (u.n < v.n) with
  | false => exact .inl rfl
  | true => rw [q2] at km; exact .inr ⟨rfl, by simpa using km⟩
 rcases two with q2 | ⟨q2, q3⟩
 ·simp (maxSteps := 1000000) only [go_sem, acondK_bool, avS, a1, b1, k0, k1, t1, q2]
  refine loop_good (fun σ : Int × Mc × AHeap => [(6, .v (.d (.int .i64 σ.1))), (3, .box [.d (.int .i64 6), .d (.str name), .d (.int .i64 max), .d (.int .i64 a.op), .d (.int .i64 a.n), .d (.str a.s), .d (.slice (a.args.map E.row)), .d (.int .i64 b.op), .d (.int .i64 b.n), .d (.str b.s), .d (.slice (b.args.map E.row)), .d (.slice (body.map Stm.row)), .d (.slice (els.map Stm.row))]), (0, .v (.ptr x.m 0)), (5, .box [.d (.int .i64 v.kind), .d (.int .i64 v.n), .d (.str v.s)])])
   (fun σ => σ.2.2) (fun σ => (v.n - σ.1).toNat) (fun σ => LoopI A x S body name v.n (.ok mF) σ.1 σ.2.1 σ.2.2) (u.n, m2, B) rfl rfl
   ⟨a2, a3, hx, hst, hui, hl⟩ ?_
  rintro ⟨i, mi, D⟩ ⟨hD, hk, hxi, hsi, hi, hev⟩ next
  simp only at hD hk hxi hsi hi hev next
  by_cases hlt : i < v.n
  ·have e0 : decide (i < v.n) = true := by simp [hlt]
   rw [loop_next hlt] at hev
   have ht := tickP hD
   rw [← tickR_rs] at ht
   have tk := tick_ok hxi hsi
   cases hr : tickR mi with
   | stop z mz => rw [hr] at hev; simp [Rx.bind] at hev
   | ok q =>
     rw [hr] at hev ht tk
     obtain ⟨D1, d1, d2, d3⟩ := ht
     obtain ⟨ov, rv, wv, h'⟩ := d2
     have hq := h'.updV (setE q.vars name ⟨1, i, []⟩)
     have hqx := (tk.1.setV name (v := ⟨1, i, []⟩) ⟨by unfold i64; simp, hi, by simp⟩).less
     have hbk := hbd _ _ ⟨_, _, _, hq⟩ hqx tk.2
     have fn := exL_fine S body _ hw hqx tk.2
     simp only [Rx.bind] at hev
     cases hr2 : exL body { q with vars := setE q.vars name ⟨1, i, []⟩ } with
     | stop z mz => rw [hr2] at hev; simp at hev
     | ok m4 =>
       rw [hr2] at hev hbk fn
       obtain ⟨D2, g1, g2, g3⟩ := hbk
       have nx := next (i + 1, m4, D2) (by simp only; omega) ⟨g2, hk.trans (d3.trans ((h'.keepV _).trans g3)), fn.1, fn.2, by unfold i64 at *; omega, hev⟩
       have hc' := h'.cell
       unfold mcell at hc'
       have hvB := h'.vars
       have up := aupd_mapE name ⟨1, i, []⟩ q.vars
       have pl : aplainV (.agg [.d (.int .i64 1), .d (.int .i64 i), .d (.str [])]) = true := rfl
       simp only [Vl.av] at up
       have e5 : IntKind.i64.wrap (i + 1) = i + 1 := by unfold i64 at *; rw [wrap_in] <;> omega
       simp (maxSteps := 1000000) only [go_sem, acondK_bool, k_drawn_t, e0, d1, hc', hvB, up, pl, amuM]
       refine (congrArg G (ctE_ok (by repeat (first | exact MLe.nil | apply MLe.qq | apply MLe.q | apply MLe.o | apply MLe.b | apply MLe.l)) (by kernel_rfl))).mpr ?_
       simp (maxSteps := 1000000) only [go_sem, acondK_bool, e5, g1, nx]
  ·have e0 : decide (i < v.n) = false := by simp [hlt]
   rw [loop_end hlt] at hev
   simp only [Rx.ok.injEq] at hev
   subst hev
   obtain ⟨k1, k2⟩ := keep_fin (f := 126) nice_t hS hD hk
   have fin : G (some (.tuple [], finH 126 A (.tuple []) D)) := by rw [hG]; exact ⟨_, rfl, k1, k2⟩
   have fr := finR (f := 126) (A := A) (B := D) nice_t
   simp (maxSteps := 1000000) only [go_sem, acondK_bool, e0, fr]
   exact fin
 ·simp (maxSteps := 1000000) only [go_sem, acondK_bool, avS, a1, b1, k0, k1, t1, q2, q3]
  refine loop_good (fun σ : Int × Mc × AHeap => [(6, .v (.d (.int .i64 σ.1))), (3, .box [.d (.int .i64 6), .d (.str name), .d (.int .i64 max), .d (.int .i64 a.op), .d (.int .i64 a.n), .d (.str a.s), .d (.slice (a.args.map E.row)), .d (.int .i64 b.op), .d (.int .i64 b.n), .d (.str b.s), .d (.slice (b.args.map E.row)), .d (.slice (body.map Stm.row)), .d (.slice (els.map Stm.row))]), (0, .v (.ptr x.m 0)), (5, .box [.d (.int .i64 v.kind), .d (.int .i64 v.n), .d (.str v.s)])])
   (fun σ => σ.2.2) (fun σ => (v.n - σ.1).toNat) (fun σ => LoopI A x S body name v.n (.ok mF) σ.1 σ.2.1 σ.2.2) (u.n, m2, B) rfl rfl
   ⟨a2, a3, hx, hst, hui, hl⟩ ?_
  rintro ⟨i, mi, D⟩ ⟨hD, hk, hxi, hsi, hi, hev⟩ next
  simp only at hD hk hxi hsi hi hev next
  by_cases hlt : i < v.n
  ·have e0 : decide (i < v.n) = true := by simp [hlt]
   rw [loop_next hlt] at hev
   have ht := tickP hD
   rw [← tickR_rs] at ht
   have tk := tick_ok hxi hsi
   cases hr : tickR mi with
   | stop z mz => rw [hr] at hev; simp [Rx.bind] at hev
   | ok q =>
     rw [hr] at hev ht tk
     obtain ⟨D1, d1, d2, d3⟩ := ht
     obtain ⟨ov, rv, wv, h'⟩ := d2
     have hq := h'.updV (setE q.vars name ⟨1, i, []⟩)
     have hqx := (tk.1.setV name (v := ⟨1, i, []⟩) ⟨by unfold i64; simp, hi, by simp⟩).less
     have hbk := hbd _ _ ⟨_, _, _, hq⟩ hqx tk.2
     have fn := exL_fine S body _ hw hqx tk.2
     simp only [Rx.bind] at hev
     cases hr2 : exL body { q with vars := setE q.vars name ⟨1, i, []⟩ } with
     | stop z mz => rw [hr2] at hev; simp at hev
     | ok m4 =>
       rw [hr2] at hev hbk fn
       obtain ⟨D2, g1, g2, g3⟩ := hbk
       have nx := next (i + 1, m4, D2) (by simp only; omega) ⟨g2, hk.trans (d3.trans ((h'.keepV _).trans g3)), fn.1, fn.2, by unfold i64 at *; omega, hev⟩
       have hc' := h'.cell
       unfold mcell at hc'
       have hvB := h'.vars
       have up := aupd_mapE name ⟨1, i, []⟩ q.vars
       have pl : aplainV (.agg [.d (.int .i64 1), .d (.int .i64 i), .d (.str [])]) = true := rfl
       simp only [Vl.av] at up
       have e5 : IntKind.i64.wrap (i + 1) = i + 1 := by unfold i64 at *; rw [wrap_in] <;> omega
       simp (maxSteps := 1000000) only [go_sem, acondK_bool, k_drawn_t, e0, d1, hc', hvB, up, pl, amuM]
       refine (congrArg G (ctE_ok (by repeat (first | exact MLe.nil | apply MLe.qq | apply MLe.q | apply MLe.o | apply MLe.b | apply MLe.l)) (by kernel_rfl))).mpr ?_
       simp (maxSteps := 1000000) only [go_sem, acondK_bool, e5, g1, nx]
  ·have e0 : decide (i < v.n) = false := by simp [hlt]
   rw [loop_end hlt] at hev
   simp only [Rx.ok.injEq] at hev
   subst hev
   obtain ⟨k1, k2⟩ := keep_fin (f := 126) nice_t hS hD hk
   have fin : G (some (.tuple [], finH 126 A (.tuple []) D)) := by rw [hG]; exact ⟨_, rfl, k1, k2⟩
   have fr := finR (f := 126) (A := A) (B := D) nice_t
   simp (maxSteps := 1000000) only [go_sem, acondK_bool, e0, fr]
   exact fin
theorem loop_stop {A : AHeap} {x : Ids} {S : Nat} {m m1 m2 mF : Mc} {z : Stp} {n0 n1 : Nat} (hS : HS A x m) (hm : MOk m n0) (hm1 : MOk m1 n1) (name : Bytes) (max : Int) (a b : E) (body els : List Stm) (hn : n0 + nodE a ≤ 1099511627776) (hn1 : n1 + nodE b ≤ 1099511627776) (he : EvalsTo x a) (hb : EvalsTo x b) {u v : Vl} (hu : evE a m = .ok u m1) (hv : evE b m1 = .ok v m2)
  (hui : i64 u.n) (hvi : i64 v.n) (hx : XI S m2 0) (hst : m2.steps ≤ 16384) (hw : slW S body) (hbd : BodyDoes x S body) (k0 : decide (u.kind = 1) = true) (k1 : decide (v.kind = 1) = true) (km : manyR u.n v.n max = false)
  (hl : loopR (fun m' => exL body m') name (v.n - u.n).toNat u.n m2 = .stop z mF) :
  Does 126 [.ptr x.m 0, avS 6 name max a b body els] A x (.stop z mF) := by
 have ev := he A m n0 hS hm hn
 rw [hu] at ev
 obtain ⟨B0, b1, b2, b3⟩ := ev
 have ew := hb B0 m1 n1 b2 hm1 hn1
 rw [hv] at ew
 obtain ⟨B, a1, a2, a3'⟩ := ew
 have a3 := b3.trans a3'
 have t1 := mustT B
 simp only [Vl.av] at a1 b1
 simp only [E.av, eV] at a1 b1
 refine does_stop ?_
 have hG : ∃ G : PR, G = fun y B => y = z.av ∧ HS B x mF ∧ Keep A B x := ⟨_, rfl⟩
 obtain ⟨G, hG⟩ := hG
 suffices h : pcl C px 126 [.ptr x.m 0, avS 6 name max a b body els] A G by rw [hG] at h; exact h
 have fin : ∀ B2 nt rs, HS B2 x mF → Keep A B2 x → (⟨⟨C, 126, nt, rs, A⟩, px, G⟩ : PF).post z.av B2 := by
  intro B2 nt rs q1 q2
  refine (post_fin (nice_s z)).2 ?_
  obtain ⟨k1, k2⟩ := keep_fin (f := 126) (nice_s z) hS q1 q2
  rw [hG]
  exact ⟨rfl, k1, k2⟩
 refine k_pan (c := C) (f := 126) rfl Tryz.func126 rfl (ok 126 (by kernel_rfl)) rfl Tryz.ntmps126 Tryz.results126 (by simp) ?_
 unfold manyR at km
 have two : decide (u.n < v.n) = false ∨ (decide (u.n < v.n) = true ∧ decide (IntKind.u64.wrap max < IntKind.u64.wrap (IntKind.u64.wrap v.n - IntKind.u64.wrap u.n)) = false) := by
  cases q2 : decide (u.n < v.n) with
  | false => exact .inl rfl
  | true => rw [q2] at km; exact .inr ⟨rfl, by simpa using km⟩
 rcases two with q2 | ⟨q2, q3⟩
 ·exfalso
  rw [loop_end (by simpa using q2)] at hl
  cases hl
 ·simp (maxSteps := 1000000) only [go_sem, acondK_bool, avS, a1, b1, k0, k1, t1, q2, q3]
  refine p_loop_meas (fun σ : Int × Mc × AHeap => [(6, .v (.d (.int .i64 σ.1))), (3, .box [.d (.int .i64 6), .d (.str name), .d (.int .i64 max), .d (.int .i64 a.op), .d (.int .i64 a.n), .d (.str a.s), .d (.slice (a.args.map E.row)), .d (.int .i64 b.op), .d (.int .i64 b.n), .d (.str b.s), .d (.slice (b.args.map E.row)), .d (.slice (body.map Stm.row)), .d (.slice (els.map Stm.row))]), (0, .v (.ptr x.m 0)), (5, .box [.d (.int .i64 v.kind), .d (.int .i64 v.n), .d (.str v.s)])])
   (fun σ => σ.2.2) (fun σ => (v.n - σ.1).toNat) (fun σ => LoopI A x S body name v.n (.stop z mF) σ.1 σ.2.1 σ.2.2) (u.n, m2, B) ?_ rfl
   ⟨a2, a3, hx, hst, hui, hl⟩ ?_
  ·simp (maxSteps := 1000000) only [go_sem, acondK_bool, firstRegion]
  rintro ⟨i, mi, D⟩ ⟨hD, hk, hxi, hsi, hi, hev⟩ next
  simp only at hD hk hxi hsi hi hev next
  by_cases hlt : i < v.n
  ·have e0 : decide (i < v.n) = true := by simp [hlt]
   rw [loop_next hlt] at hev
   have ht := tickP hD
   rw [← tickR_rs] at ht
   have tk := tick_ok hxi hsi
   cases hr : tickR mi with
   | stop y my =>
     rw [hr] at hev ht
     simp only [Rx.bind, Rx.stop.injEq] at hev
     obtain ⟨rfl, rfl⟩ := hev
     obtain ⟨B1, c2, c3, c1⟩ := ht
     have no := pcl_no pxNo (c1 (fun _ _ => True) trivial)
     have f2 := fun nt rs => fin B1 nt rs c2 (hk.trans c3)
     simp (maxSteps := 1000000) only [go_sem, acondK_bool, e0, no]
     exact c1 _ (f2 _ _)
   | ok q =>
     rw [hr] at hev ht tk
     obtain ⟨D1, d1, d2, d3⟩ := ht
     obtain ⟨ov, rv, wv, h'⟩ := d2
     have hq := h'.updV (setE q.vars name ⟨1, i, []⟩)
     have hqx := (tk.1.setV name (v := ⟨1, i, []⟩) ⟨by unfold i64; simp, hi, by simp⟩).less
     have hbk := hbd _ _ ⟨_, _, _, hq⟩ hqx tk.2
     have fn := exL_fine S body _ hw hqx tk.2
     have hc' := h'.cell
     unfold mcell at hc'
     have hvB := h'.vars
     have up := aupd_mapE name ⟨1, i, []⟩ q.vars
     have pl : aplainV (.agg [.d (.int .i64 1), .d (.int .i64 i), .d (.str [])]) = true := rfl
     simp only [Vl.av] at up
     have e5 : IntKind.i64.wrap (i + 1) = i + 1 := by unfold i64 at *; rw [wrap_in] <;> omega
     simp only [Rx.bind] at hev
     cases hr2 : exL body { q with vars := setE q.vars name ⟨1, i, []⟩ } with
     | stop y my =>
       rw [hr2] at hev hbk
       simp only [Rx.stop.injEq] at hev
       obtain ⟨rfl, rfl⟩ := hev
       obtain ⟨D2, g2, g3, g1⟩ := hbk
       have no := pcl_no pxNo (g1 (fun _ _ => True) trivial)
       have f2 := fun nt rs => fin D2 nt rs g2 (hk.trans (d3.trans ((h'.keepV _).trans g3)))
       simp (maxSteps := 1000000) only [go_sem, acondK_bool, e0, d1]
       refine p_drawn_r ?_
       simp (maxSteps := 1000000) only [go_sem, acondK_bool, hc', hvB, up, pl, amuM]
       refine prE_ok (by repeat (first | exact MLe.nil | apply MLe.qq | apply MLe.q | apply MLe.o | apply MLe.b | apply MLe.l)) (by kernel_rfl) ?_
       simp (maxSteps := 1000000) only [go_sem, acondK_bool, no]
       exact g1 _ (f2 _ _)
     | ok m4 =>
       rw [hr2] at hev hbk fn
       obtain ⟨D2, g1, g2, g3⟩ := hbk
       have nx := fun env' => next (i + 1, m4, D2) env' (by simp only; omega) ⟨g2, hk.trans (d3.trans ((h'.keepV _).trans g3)), fn.1, fn.2, by unfold i64 at *; omega, hev⟩
       simp (maxSteps := 1000000) only [go_sem, acondK_bool, e0, d1]
       refine p_drawn_r ?_
       simp (maxSteps := 1000000) only [go_sem, acondK_bool, hc', hvB, up, pl, amuM]
       refine prE_ok (by repeat (first | exact MLe.nil | apply MLe.qq | apply MLe.q | apply MLe.o | apply MLe.b | apply MLe.l)) (by kernel_rfl) ?_
       simp (maxSteps := 1000000) only [go_sem, acondK_bool, e5, g1]
       refine nx _ ?_
       simp (maxSteps := 1000000) only [go_sem, acondK_bool, firstRegion]
  ·rw [loop_end hlt] at hev
   cases hev
theorem loop_stopA {A : AHeap} {x : Ids} {m mF : Mc} {n0 : Nat} (hS : HS A x m) (hm : MOk m n0) (name : Bytes) (max : Int) (a b : E) (body els : List Stm) (hn : n0 + nodE a ≤ 1099511627776) (he : EvalsTo x a) {z : Stp} (hv : evE a m = .stop z mF) :
  Does 126 [.ptr x.m 0, avS 6 name max a b body els] A x (.stop z mF) := by
 have ev := he A m n0 hS hm hn
 rw [hv] at ev
 obtain ⟨B, a2, a3, a1⟩ := ev
 obtain ⟨k1, k2⟩ := keep_fin (f := 126) (v := z.av) (nice_s _) hS a2 a3
 refine ⟨_, k1, k2, fun R hR => ?_⟩
 have no : acl C 123 [.ptr x.m 0, E.av a] A = none := pcl_no pxNo (a1 (fun _ _ => True) trivial)
 simp only [E.av, eV] at a1 no
 refine k_pan (c := C) (f := 126) rfl Tryz.func126 rfl (ok 126 (by kernel_rfl)) rfl Tryz.ntmps126 Tryz.results126 (by simp) ?_
 simp (maxSteps := 1000000) only [go_sem, acondK_bool, avS, no]
 exact a1 _ ((post_fin (nice_s _)).2 hR)
theorem loop_stopB {A : AHeap} {x : Ids} {m m1 mF : Mc} {n0 n1 : Nat} (hS : HS A x m) (hm : MOk m n0) (hm1 : MOk m1 n1) (name : Bytes) (max : Int) (a b : E) (body els : List Stm) (hn : n0 + nodE a ≤ 1099511627776) (hn1 : n1 + nodE b ≤ 1099511627776) (he : EvalsTo x a) (hb : EvalsTo x b) {v : Vl} {z : Stp} (hv : evE a m = .ok v m1) (hw : evE b m1 = .stop z mF) :
  Does 126 [.ptr x.m 0, avS 6 name max a b body els] A x (.stop z mF) := by
 have ev := he A m n0 hS hm hn
 rw [hv] at ev
 obtain ⟨B, b1, b2, b3⟩ := ev
 have ew := hb B m1 n1 b2 hm1 hn1
 rw [hw] at ew
 obtain ⟨D, a2, a3, a1⟩ := ew
 obtain ⟨k1, k2⟩ := keep_fin (f := 126) (v := z.av) (nice_s _) hS a2 (b3.trans a3)
 refine ⟨_, k1, k2, fun R hR => ?_⟩
 have no : acl C 123 [.ptr x.m 0, E.av b] B = none := pcl_no pxNo (a1 (fun _ _ => True) trivial)
 simp only [E.av, eV, Vl.av] at a1 no b1
 refine k_pan (c := C) (f := 126) rfl Tryz.func126 rfl (ok 126 (by kernel_rfl)) rfl Tryz.ntmps126 Tryz.results126 (by simp) ?_
 simp (maxSteps := 1000000) only [go_sem, acondK_bool, avS, b1, no]
 exact a1 _ ((post_fin (nice_s _)).2 hR)
theorem loop_must {A : AHeap} {x : Ids} {m m1 m2 : Mc} {n0 n1 : Nat} (hS : HS A x m) (hm : MOk m n0) (hm1 : MOk m1 n1) (name : Bytes) (max : Int) (a b : E) (body els : List Stm) (hn : n0 + nodE a ≤ 1099511627776) (hn1 : n1 + nodE b ≤ 1099511627776) (he : EvalsTo x a) (hb : EvalsTo x b) {u v : Vl} (hu : evE a m = .ok u m1) (hv : evE b m1 = .ok v m2)
  (hq : (decide (u.kind = 1) && decide (v.kind = 1)) = false) :
  Does 126 [.ptr x.m 0, avS 6 name max a b body els] A x (.stop (abt 1009) m2) := by
 have ev := he A m n0 hS hm hn
 rw [hu] at ev
 obtain ⟨B0, b1, b2, b3⟩ := ev
 have ew := hb B0 m1 n1 b2 hm1 hn1
 rw [hv] at ew
 obtain ⟨B, a1, a2, a3'⟩ := ew
 have a3 := b3.trans a3'
 have t2 := mustN B
 simp only [Vl.av] at a1 b1
 simp only [E.av, eV] at a1 b1
 obtain ⟨k1, k2⟩ := keep_fin (f := 126) (v := (abt 1009).av) (nice_s _) hS a2 a3
 refine ⟨_, k1, k2, fun R hR => ?_⟩
 cases q0 : decide (u.kind = 1) with
 | false =>
   refine k_pan (c := C) (f := 126) rfl Tryz.func126 rfl (ok 126 (by kernel_rfl)) rfl Tryz.ntmps126 Tryz.results126 (by simp) ?_
   simp (maxSteps := 1000000) only [go_sem, acondK_bool, avS, a1, b1, q0, t2]
   exact mustF _ ((post_fin (nice_s _)).2 hR)
 | true =>
   have q1 : decide (v.kind = 1) = false := by rw [q0] at hq; simpa using hq
   refine k_pan (c := C) (f := 126) rfl Tryz.func126 rfl (ok 126 (by kernel_rfl)) rfl Tryz.ntmps126 Tryz.results126 (by simp) ?_
   simp (maxSteps := 1000000) only [go_sem, acondK_bool, avS, a1, b1, q0, q1, t2]
   exact mustF _ ((post_fin (nice_s _)).2 hR)
theorem loop_many {A : AHeap} {x : Ids} {m m1 m2 : Mc} {n0 n1 : Nat} (hS : HS A x m) (hm : MOk m n0) (hm1 : MOk m1 n1) (name : Bytes) (max : Int) (a b : E) (body els : List Stm) (hn : n0 + nodE a ≤ 1099511627776) (hn1 : n1 + nodE b ≤ 1099511627776) (he : EvalsTo x a) (hb : EvalsTo x b) {u v : Vl} (hu : evE a m = .ok u m1) (hv : evE b m1 = .ok v m2)
  (k0 : decide (u.kind = 1) = true) (k1 : decide (v.kind = 1) = true) (km : manyR u.n v.n max = true) :
  Does 126 [.ptr x.m 0, avS 6 name max a b body els] A x (.stop (abt 1005) m2) := by
 have ev := he A m n0 hS hm hn
 rw [hu] at ev
 obtain ⟨B0, b1, b2, b3⟩ := ev
 have ew := hb B0 m1 n1 b2 hm1 hn1
 rw [hv] at ew
 obtain ⟨B, a1, a2, a3'⟩ := ew
 have a3 := b3.trans a3'
 have t1 := mustT B
 simp only [Vl.av] at a1 b1
 simp only [E.av, eV] at a1 b1
 obtain ⟨h1, h2⟩ := keep_fin (f := 126) (v := (abt 1005).av) (nice_s _) hS a2 a3
 refine ⟨_, h1, h2, fun R hR => ?_⟩
 unfold manyR at km
 have q2 : decide (u.n < v.n) = true := by cases h : decide (u.n < v.n) <;> simp_all
 have q3 : decide (IntKind.u64.wrap max < IntKind.u64.wrap (IntKind.u64.wrap v.n - IntKind.u64.wrap u.n)) = true := by rw [q2] at km; simpa using km
 refine k_pan (c := C) (f := 126) rfl Tryz.func126 rfl (ok 126 (by kernel_rfl)) rfl Tryz.ntmps126 Tryz.results126 (by simp) ?_
 simp (maxSteps := 1000000) only [go_sem, acondK_bool, avS, a1, b1, k0, k1, t1, q2, q3]
 exact abortP ((post_fin (nice_s _)).2 hR)
theorem loopP {A : AHeap} {x : Ids} {S : Nat} {m : Mc} (hS : HS A x m) (hx : XQ S m S) (hSb : S ≤ 33554432) (name : Bytes) (max : Int) (a b : E) (body els : List Stm) (la : litE a) (lb : litE b) (hn : nodE a + nodE b ≤ S) (he : EvalsTo x a) (hb : EvalsTo x b) (hw : slW S body) (hbd : BodyDoes x S body) :
  Does 126 [.ptr x.m 0, avS 6 name max a b body els] A x (exS (.mk 6 name max a b body els) m).rs := by
 have big : S * 16385 ≤ 1099511627776 := Nat.le_trans (Nat.mul_le_mul_right 16385 hSb) (by decide)
 have r1 := hx.base.rdl
 have e1 := hx.ev la (by omega)
 have b1 : m.reads.length + nodE a ≤ 1099511627776 := by have := hx.reads; have := Nat.mul_le_mul_left S (show m.steps.toNat ≤ 16385 by have := hx.steps; omega); omega
 have ex6 : exS (.mk 6 name max a b body els) m = (evE a m).bind fun lo m1 => (evE b m1).bind fun hi m2 => mustR (decide (lo.kind = 1) && decide (hi.kind = 1)) m2 (if manyR lo.n hi.n max then .stop (abt 1005) m2 else loopR (fun m' => exL body m') name (hi.n - lo.n).toNat lo.n m2) := by
  simp only [exS]; rfl
 rw [ex6]
 cases hu : evE a m with
 | stop z q => exact loop_stopA hS hx.base.mokR name max a b body els b1 he hu
 | ok u m1 =>
   rw [hu] at e1
   obtain ⟨vu, x1⟩ := e1
   have e2 := x1.ev lb (by omega)
   have b2 : m1.reads.length + nodE b ≤ 1099511627776 := by have := x1.reads; have := Nat.mul_le_mul_left S (show m1.steps.toNat ≤ 16385 by have := x1.steps; omega); omega
   simp only [Rv.bind]
   cases hv : evE b m1 with
   | stop z q => exact loop_stopB hS hx.base.mokR x1.base.mokR name max a b body els b1 b2 he hb hu hv
   | ok v m2 =>
     rw [hv] at e2
     obtain ⟨vv, x2⟩ := e2
     simp only [Rv.bind]
     unfold mustR
     cases q0 : (decide (u.kind = 1) && decide (v.kind = 1)) with
     | false => exact loop_must hS hx.base.mokR x1.base.mokR name max a b body els b1 b2 he hb hu hv q0
     | true =>
       simp only [Bool.and_eq_true] at q0
       simp only [if_true]
       cases km : manyR u.n v.n max with
       | true => exact loop_many hS hx.base.mokR x1.base.mokR name max a b body els b1 b2 he hb hu hv q0.1 q0.2 km
       | false =>
         simp only [Bool.false_eq_true, if_false]
         cases hl : loopR (fun m' => exL body m') name (v.n - u.n).toNat u.n m2 with
         | ok mF => exact loop_ok hS hx.base.mokR x1.base.mokR name max a b body els b1 b2 he hb hu hv vu.n vv.n x2.base x2.steps hw hbd q0.1 q0.2 km hl
         | stop z mF => exact loop_stop hS hx.base.mokR x1.base.mokR name max a b body els b1 b2 he hb hu hv vu.n vv.n x2.base x2.steps hw hbd q0.1 q0.2 km hl
end Go.Proofs.YtpbdjgdmhfibmaaGreatDoor
set_option linter.all false
namespace Go.Proofs.YtpbdjgdmhfibmaaGreatDoor
open Go.Abs
set_option maxRecDepth 100000
theorem stmtP (x : Ids) {S : Nat} (hSb : S ≤ 33554432) : ∀ s : Stm, s.Ok → stW S s → StmDoes x S s := by
 intro s
 induction s using Stm.ind with
 | h op name max a b body els ih1 ih2 =>
   intro hok hw A m hS hx
   have hw' := hw
   simp only [stW] at hw'
   obtain ⟨la, lb, hn, wb, we⟩ := hw'
   obtain ⟨oa, ob, l1, l2, o1, o2⟩ : a.Ok ∧ b.Ok ∧ body.length ≤ 4194303 ∧ els.length ≤ 4194303 ∧ (∀ x, x ∈ body → Stm.Ok x) ∧ (∀ x, x ∈ els → Stm.Ok x) := by
    cases hok; exact ⟨by assumption, by assumption, by assumption, by assumption, by assumption, by assumption⟩
   have he := evalP x a oa la
   have hb := evalP x b ob lb
   have bdy : BodyDoes x S body := fun B q h1 h2 h3 => blkRunP h1 body l1 wb h2 h3 (fun s hs => ih1 s hs (o1 s hs) (slW_mem wb hs))
   have bde : BodyDoes x S els := fun B q h1 h2 h3 => blkRunP h1 els l2 we h2 h3 (fun s hs => ih2 s hs (o2 s hs) (slW_mem we hs))
   have big : S * 16385 ≤ 1099511627776 := Nat.le_trans (Nat.mul_le_mul_right 16385 hSb) (by decide)
   have e1 := hx.ev la (by omega)
   have b1 : m.reads.length + nodE a ≤ 1099511627776 := by have := hx.reads; have := Nat.mul_le_mul_left S (show m.steps.toNat ≤ 16385 by have := hx.steps; omega); omega
   have bb : ∀ q r, XQ S q r → nodE b ≤ r → q.reads.length + nodE b ≤ 1099511627776 := fun q r h hr => by have := h.reads; have := Nat.mul_le_mul_left S (show q.steps.toNat ≤ 16385 by have := h.steps; omega); omega
   have wl : ∀ q r, XQ S q r → q.writes.length ≤ 1099511627776 := fun q r h => by have := h.writes; have := h.steps; omega
   have hav : sav (.mk op name max a b body els) = avS op name max a b body els := rfl
   rw [hav]
   have hm := hx.base.mokR
   cases h1 : decide (op = 1) with
   | true =>
     obtain rfl := of_decide_eq_true h1
     have ex : exS (.mk 1 name max a b body els) m = (evE a m).bind fun v m1 => .ok { m1 with vars := setE m1.vars name v } := by simp only [exS]; rfl
     rw [ex]
     cases hu : evE a m with
     | ok v m1 => exact st1_ok hS hm name max a b body els b1 he hu
     | stop z q => exact st1_stop hS hm name max a b body els b1 he hu
   | false =>
   cases h2 : decide (op = 2) with
   | true =>
     obtain rfl := of_decide_eq_true h2
     have ex : exS (.mk 2 name max a b body els) m = (evE a m).bind fun v m1 => .ok { m1 with vars := setE m1.vars name v } := by simp only [exS]; rfl
     rw [ex]
     cases hu : evE a m with
     | ok v m1 => exact st2_ok hS hm name max a b body els b1 he hu
     | stop z q => exact st2_stop hS hm name max a b body els b1 he hu
   | false =>
   cases h3 : decide (op = 3) with
   | true =>
     obtain rfl := of_decide_eq_true h3
     have ex : exS (.mk 3 name max a b body els) m = (evE a m).bind fun k m1 => (evE b m1).bind fun v m2 => mustR (decide (k.kind = 2) && (decide (v.kind = 1) || decide (v.kind = 2))) m2 (storeR m2 k.s v) := by simp only [exS]; rfl
     rw [ex]
     cases hu : evE a m with
     | stop z q => exact st3_stop hS hm name max a b body els b1 he hu
     | ok u m1 =>
       rw [hu] at e1
       obtain ⟨vu, x1⟩ := e1
       have e2 := x1.ev lb (by omega)
       simp only [Rv.bind]
       cases hv : evE b m1 with
       | stop z q => exact st3_stopB hS hm x1.base.mokR name max a b body els b1 (bb _ _ x1 (by omega)) he hb hu hv
       | ok v m2 =>
         rw [hv] at e2
         obtain ⟨vv, x2⟩ := e2
         exact st3_ok hS hm x1.base.mokR (wl _ _ x2) x2.base.fw name max a b body els b1 (bb _ _ x1 (by omega)) he hb (Nat.le_trans vu.s (by decide)) hu hv
   | false =>
   cases h4 : decide (op = 4) with
   | true =>
     obtain rfl := of_decide_eq_true h4
     have ex : exS (.mk 4 name max a b body els) m = (evE a m).bind fun k m1 => mustR (decide (k.kind = 2)) m1 (storeR m1 k.s zeroV) := by simp only [exS]; rfl
     rw [ex]
     cases hu : evE a m with
     | stop z q => exact st4_stop hS hm name max a b body els b1 he hu
     | ok u m1 =>
       rw [hu] at e1
       obtain ⟨vu, x1⟩ := e1
       exact st4_ok hS hm (wl _ _ x1) x1.base.fw name max a b body els b1 he (Nat.le_trans vu.s (by decide)) hu
   | false =>
   cases h5 : decide (op = 5) with
   | true =>
     obtain rfl := of_decide_eq_true h5
     have ex : exS (.mk 5 name max a b body els) m = (evE a m).bind fun c m1 => mustR (decide (c.kind = 3)) m1 (if decide (c.n = 1) then exL body m1 else exL els m1) := by simp only [exS]; rfl
     rw [ex]
     cases hu : evE a m with
     | stop z q => exact st5_stop hS hm name max a b body els b1 he hu
     | ok u m1 =>
       rw [hu] at e1
       obtain ⟨vu, x1⟩ := e1
       exact st5_ok hS hm name max a b body els b1 he hu (fun B h => bdy B m1 h x1.base x1.steps) (fun B h => bde B m1 h x1.base x1.steps)
   | false =>
   cases h6 : decide (op = 6) with
   | true =>
     obtain rfl := of_decide_eq_true h6
     exact st6_any hS name max a b body els (loopP hS hx hSb name max a b body els la lb hn he hb wb bdy)
   | false =>
   cases h7 : decide (op = 7) with
   | true =>
     obtain rfl := of_decide_eq_true h7
     have ex : exS (.mk 7 name max a b body els) m = (evE a m).bind fun v m1 => mustR (decide (v.kind = 1) || decide (v.kind = 2)) m1 (emitR m1 v) := by simp only [exS]; rfl
     rw [ex]
     cases hu : evE a m with
     | stop z q => exact st7_stop hS hm name max a b body els b1 he hu
     | ok u m1 =>
       rw [hu] at e1
       obtain ⟨vu, x1⟩ := e1
       exact st7_ok hS hm x1.base.out name max a b body els b1 he hu
   | false =>
   cases h8 : decide (op = 8) with
   | true =>
     obtain rfl := of_decide_eq_true h8
     exact st8_stop hS name max a b body els
   | false =>
     have ex : exS (.mk op name max a b body els) m = .ok m := by
      simp only [exS, h1, h2, h3, h4, h5, h6, h7, h8, Bool.or_false, Bool.false_eq_true, if_false]
     rw [ex]
     exact st0_ok hS op name max a b body els h1 h2 h3 h4 h5 h6 h7 h8
theorem blockAll (x : Ids) {S : Nat} (hSb : S ≤ 33554432) (l : List Stm) (hlen : l.length ≤ 4194303) (hok : ∀ s ∈ l, s.Ok) (hw : slW S l) {A : AHeap} {m : Mc} (hS : HS A x m) (hx : XI S m 0) (hst : m.steps ≤ 16384) :
  Does 51 [.ptr x.m 0, .d (.slice (l.map Stm.row))] A x (exL l m).rs :=
 blkRunP hS l hlen hw hx hst fun s hs => stmtP x hSb s (hok s hs) (slW_mem hw hs)
end Go.Proofs.YtpbdjgdmhfibmaaGreatDoor
set_option linter.all false
namespace Go.Proofs.YtpbdjgdmhfibmaaGreatDoor
open Go.Abs Go.RowKit Go.Shelf
set_option maxRecDepth 100000
theorem cmp_okE : CallOk1 Tryz.prog 176 (cmpFn Lib.compareBytes) := by
 intro xs A x A' hx
 unfold cmpFn at hx
 split at hx
 case h_2 => cases hx
 rename_i a b
 cases hx
 refine ⟨⟨_, Tryz.func176, by kernel_rfl, by kernel_rfl⟩, fun W g vs hw hr => ?_⟩
 obtain ⟨v, u, rfl, hv, hu⟩ := two_args hr
 cases hv with
 | d _ _ hd =>
 cases hu with
 | d _ _ hs =>
 cases hd with
 | str sa =>
 cases hs with
 | str sb =>
 refine Calls.mono (Any.bytealg_CompareString lay_Lays_n213 sa sb W) ?_
 rintro e W' ⟨rfl, rfl⟩
 exact ⟨_, g, rfl, .d _ _ (.int .i64 _), hw, .refl _ _ _⟩
def tabCs : Array Value := (Lib.pow10Tab.map fun z => Value.int .u64 z).toArray
def IT : World → Gh → Prop := VarI Tryz.prog "internal/strconv.uint64pow10" tabCs
theorem fmt_ok : CallOk1I Tryz.prog IT 212 (fmtFn Lib.itoa) := by
 intro xs A x A' hx
 unfold fmtFn at hx
 split at hx
 case h_2 => cases hx
 rename_i n b hcl
 split at hx
 case isFalse => cases hx
 rename_i hn
 obtain ⟨rfl, hn0, hn1⟩ := hn
 cases hx
 refine ⟨⟨_, Tryz.func212, by kernel_rfl, by kernel_rfl⟩, fun W g vs hi hw hr => ?_⟩
 obtain ⟨g1, r1, w1, e1⟩ := acleanVs_rel hw hr
 rw [hcl] at r1
 obtain ⟨v, u, rfl, hv, hu⟩ := two_args r1
 cases hv with
 | d _ _ hd =>
 cases hu with
 | d _ _ hs =>
 cases hd
 cases hs
 refine Calls.mono (Any.strconv_FormatInt_10 lay_LaysM_n173 n hn0 hn1 W hi.1) ?_
 rintro e W' ⟨rfl, k, os, hW⟩
 have hh : ∀ b, b < W.heap.size → W'.heap[b]? = W.heap[b]? := fun b h => by rw [hW]; exact Array.getElem?_append_left h
 have hs : W.heap.size ≤ W'.heap.size := by
  rw [hW]
  show W.heap.size ≤ (W.heap ++ os).size
  rw [Array.size_append]
  exact Nat.le_add_right _ _
 have hrest : Go.Abs.Rest W W' := by rw [hW]; exact ⟨rfl, rfl⟩
 exact ⟨_, g1, rfl, .d _ _ (.str ⟨(Lib.itoa n).toArray⟩), w1.grown hs hh hrest, e1.trans (Ev.grown w1 hs hh hrest)⟩
theorem extOkI : ∀ f h, C.ext f = some h → CallOk1I C.P IT f h := by
 intro f h hf
 have key : C.ext f = bif extL.contains f then some failFn else extT f := rfl
 rw [key] at hf
 cases h1 : extL.contains f with
 | true =>
   rw [h1] at hf
   cases hf
   intro xs A x A' hx
   cases hx
 | false =>
 rw [h1] at hf
 simp only [cond_false] at hf
 unfold extT at hf
 cases h2 : Nat.beq f 170 with
 | true =>
   rw [h2] at hf
   cases hf
   obtain rfl : f = 170 := Nat.eq_of_beq_eq_true h2
   exact with_ok.I
 | false =>
 cases h3 : Nat.beq f 176 with
 | true =>
   rw [h2, h3] at hf
   cases hf
   obtain rfl : f = 176 := Nat.eq_of_beq_eq_true h3
   exact cmp_okE.I
 | false =>
 cases h4 : Nat.beq f 212 with
 | true =>
   rw [h2, h3, h4] at hf
   cases hf
   obtain rfl : f = 212 := Nat.eq_of_beq_eq_true h4
   exact fmt_ok
 | false => rw [h2, h3, h4] at hf; cases hf
theorem IT_closed : EvClosed IT := varI_closed _ _ _
theorem abort_walk (n : Int) (W : World) : Calls Tryz.prog 122 #[.int .i64 n] W fun e W' => e = .panicked [{ v := .iface 106 (.agg #[.int .i64 2, .int .i64 n, .slice none 0 0, .string ⟨#[]⟩]), recovered := false }] ∧ W' = W := by
 go_enter Tryz.func122, Tryz.ntmps122
 go_wp2
 first | exact ⟨rfl, rfl, rfl⟩ | exact ⟨rfl, rfl⟩ | skip
theorem restart_walk (s : ByteArray) (W : World) : Calls Tryz.prog 169 #[.string s] W fun e W' => e = .panicked [{ v := .iface 106 (.agg #[.int .i64 3, .int .i64 0, .slice none 0 0, .string s]), recovered := false }] ∧ W' = W := by
 go_enter Tryz.func169, Tryz.ntmps169
 go_wp2
 first | exact ⟨rfl, rfl, rfl⟩ | exact ⟨rfl, rfl⟩ | skip
end Go.Proofs.YtpbdjgdmhfibmaaGreatDoor
set_option linter.all false
namespace Go.Proofs.YtpbdjgdmhfibmaaGreatDoor
open Go.Abs
set_option maxRecDepth 10000
def fewN (n : Nat) : Bool := decide (n ≤ 1099511627776)
def outFn (f : List AV → Option AV) : AFun := fun args A => match f (acleanVs A args).1 with
 | some x => some (x, (acleanVs A args).2)
 | none => none
def argP : List AV → Option Pr
 | [.agg [.d a, .d b, .d c]] => match rdPr [a, b, c] with
   | some p => if (okP p && (!decide (valS p = 0) || fewN (opsEs (exprsS p)).length)) = true then some p else none
   | none => none
 | _ => none
def fstP (p : Pr) : Int × Int × Bool := if valS p = 0 then fstS (opsEs (exprsS p)) 0 else (0, 0, false)
def fstF : List AV → Option AV := fun xs => (argP xs).map fun p => .tuple [.d (.int .i64 (fstP p).1), .d (.int .i64 (fstP p).2.1), .d (.bool (fstP p).2.2)]
theorem argP_inv {xs : List AV} {p : Pr} (h : argP xs = some p) : xs = [Pr.av p] ∧ p.Ok ∧ (valS p = 0 → (opsEs (exprsS p)).length ≤ 1099511627776) := by
 unfold argP at h
 split at h
 ·split at h
  ·rename_i a b c p' he
   split at h
   ·rename_i hl
    cases h
    have h2 := rdPr_inv he
    rw [Pr.row] at h2
    simp only [List.cons.injEq, and_true] at h2
    obtain ⟨rfl, rfl, rfl⟩ := h2
    rw [Bool.and_eq_true] at hl
    exact ⟨rfl, okP_iff.1 hl.1, fun h => by simpa [fewN, h] using hl.2⟩
   ·cases h
  ·cases h
 ·cases h
theorem argP_row {p : Pr} (hp : p.Ok) (h : valS p = 0 → (opsEs (exprsS p)).length ≤ 1099511627776) : argP [Pr.av p] = some p := by
 have := rdPr_row p
 rw [Pr.row] at this
 simp only [argP]
 rw [this]
 simp only
 rw [if_pos (by rw [Bool.and_eq_true]; exact ⟨okP_iff.2 hp, by by_cases hv : valS p = 0; (· simpa [fewN, hv] using h hv); (· simp [hv])⟩)]
theorem out_okI {I : World → Gh → Prop} (hI : EvClosed I) {P : Program} {f : FuncId} {k : List AV → Option AV} (hf : ∃ fn, P.funcs[f]? = some fn ∧ (fn.name == "runtime.NumGoroutine") = false ∧ fn.body.isNone = false)
  (h : ∀ xs x, k xs = some x → ∀ (W : World) (g : Gh) (A : AHeap) (vs : List Value), I W g → WRel W g A → RelL W g A xs vs → Calls P f vs.toArray W (CallPost W g A x A)) : CallOk1I P I f (outFn k) := by
 intro xs A x A' hx
 unfold outFn at hx
 split at hx
 ·rename_i y hy
  cases hx
  refine ⟨hf, fun W g vs hi hw hr => ?_⟩
  obtain ⟨g1, r1, w1, e1⟩ := acleanVs_rel hw hr
  refine (h _ _ hy W g1 _ vs (hI _ _ _ _ _ _ hi e1) w1 r1).mono fun e W' hp => ?_
  obtain ⟨v, g', rfl, p1, p2, p3⟩ := hp
  exact ⟨v, g', rfl, p1, p2, e1.trans p3⟩
 ·cases hx
theorem relL_one1 {W : World} {g : Gh} {A : AHeap} {x : AV} {vs : List Value} (h : RelL W g A [x] vs) : ∃ v, vs = [v] ∧ RelV W g A x v := by
 obtain ⟨h1, h2⟩ := h
 match vs, h1 with
 | [v], _ => exact ⟨v, rfl, h2 0 x v rfl rfl⟩
 | [], h => simp at h
 | _ :: _ :: _, h => simp at h
set_option maxRecDepth 100000 in
theorem fst_okI : CallOk1I Tryz.prog IT 117 (outFn fstF) := by
 refine out_okI IT_closed ⟨_, Tryz.func117, by kernel_rfl, rfl⟩ fun xs x hx W g A vs hi hw hr => ?_
 unfold fstF at hx
 rw [Option.map_eq_some_iff] at hx
 obtain ⟨p, he, rfl⟩ := hx
 obtain ⟨rfl, hp, hl⟩ := argP_inv he
 obtain ⟨v, rfl, hv⟩ := relL_one1 hr
 obtain ⟨c0, c1, c2, rfl⟩ : ∃ c0 c1 c2, v = .agg #[c0, c1, c2] := by
  cases hv with
  | agg cs us hl hr =>
    match us, hl with
    | [a, b, c], _ => exact ⟨a, b, c, rfl⟩
 refine callsIn_wide.1 (first_in 8 (Nat.le_refl _) g A W hw (Pr.av p) c0 c1 c2 hv (valS p) (exprsS p) hl ?_ ?_ (fstP p) rfl)
 ·intro W g he hw hv
  exact (acl_okI (c := C) IT_closed mixed extOkI _ _ _ _ _ (validate p hp A)).2 W g [.agg #[c0, c1, c2]] (IT_closed _ _ _ _ _ _ hi he) hw ⟨rfl, fun i x v h1 h2 => by
   match i with
   | 0 => simp at h1 h2; subst h1; subst h2; exact hv
   | i + 1 => simp at h1⟩
 ·intro _ W g he hw hv
  exact (acl_okI (c := C) IT_closed mixed extOkI _ _ _ _ _ (exprs p hp A)).2 W g [.agg #[c0, c1, c2]] (IT_closed _ _ _ _ _ _ hi he) hw ⟨rfl, fun i x v h1 h2 => by
   match i with
   | 0 => simp at h1 h2; subst h1; subst h2; exact hv
   | i + 1 => simp at h1⟩
end Go.Proofs.YtpbdjgdmhfibmaaGreatDoor
set_option linter.all false
namespace Go.Proofs.YtpbdjgdmhfibmaaGreatDoor
open Go.Abs Go.RowKit Go.Shelf
set_option maxRecDepth 100000
theorem pxOk : PxOk Tryz.prog 106 IT px := by
 intro f xs A x A' h
 cases h with
 | abort code =>
   refine ⟨⟨_, Tryz.func122, by kernel_rfl, by kernel_rfl⟩, fun W g vs _ hw hr => ?_⟩
   obtain ⟨h1, h2⟩ := hr
   match vs, h1 with
   | [v], _ =>
     have hv := h2 0 _ v rfl rfl
     cases hv with
     | d _ _ hd =>
     cases hd
     refine (abort_walk code W).mono ?_
     rintro e W' ⟨rfl, rfl⟩
     refine ⟨_, g, rfl, .agg _ [.int .i64 2, .int .i64 code, .slice none 0 0, .string ⟨#[]⟩] rfl fun i x v k1 k2 => ?_, hw, .refl _ _ _⟩
     match i with
     | 0 => simp at k1 k2; subst k1; subst k2; exact .d _ _ (.int _ _)
     | 1 => simp at k1 k2; subst k1; subst k2; exact .d _ _ (.int _ _)
     | 2 => simp at k1 k2; subst k1; subst k2; exact .d _ _ (.empty _ _)
     | 3 => simp at k1 k2; subst k1; subst k2; exact .d _ _ (.str ⟨#[]⟩)
     | i + 4 => simp at k2
   | [], h => simp at h
   | _ :: _ :: _, h => simp at h
 | restart key =>
   refine ⟨⟨_, Tryz.func169, by kernel_rfl, by kernel_rfl⟩, fun W g vs _ hw hr => ?_⟩
   obtain ⟨h1, h2⟩ := hr
   match vs, h1 with
   | [v], _ =>
     have hv := h2 0 _ v rfl rfl
     cases hv with
     | d _ _ hd =>
     cases hd with
     | str kb =>
     refine (restart_walk kb W).mono ?_
     rintro e W' ⟨rfl, rfl⟩
     refine ⟨_, g, rfl, .agg _ [.int .i64 3, .int .i64 0, .slice none 0 0, .string kb] rfl fun i x v k1 k2 => ?_, hw, .refl _ _ _⟩
     match i with
     | 0 => simp at k1 k2; subst k1; subst k2; exact .d _ _ (.int _ _)
     | 1 => simp at k1 k2; subst k1; subst k2; exact .d _ _ (.int _ _)
     | 2 => simp at k1 k2; subst k1; subst k2; exact .d _ _ (.empty _ _)
     | 3 => simp at k1 k2; subst k1; subst k2; exact .d _ _ (.str kb)
     | i + 4 => simp at k2
   | [], h => simp at h
   | _ :: _ :: _, h => simp at h
theorem catch_idle (p q : Addr) (w : World) :
  CallsD Tryz.prog 87 #[.pointer (some p), .pointer (some q)] .returning w fun e u' w' => e = .returned (.tuple #[]) ∧ u' = .returning ∧ w' = w := by
 refine callsD_of_wpS Tryz.func87 rfl fun c₀ cs hu => ?_
 apply wpS_seq
 apply wpS_region
 simp [wpOpsS, go_sem, recoverD, hu, Tryz.ntmps87, Exit.thenS]
 refine wpS_of_wp ?_
 go_wp2
 cases c₀
 simp_all [bodyPostS, results, Tryz.results87]
@[go_sem] theorem assert_stop (v : Value) (w : World) : (Instr.typeAssert (.iface 106 v) 20 106 true).run Tryz.prog w = .ok (.tuple #[v, .bool true]) w := by kernel_rfl
structure Kept (w : World) (b q : Nat) (o1 o2 o3 o4 x : Value) : Prop where
 hp : w.heap[b]? = some (.cells #[o1, o2, o3, o4] 106 (0, 0))
 hq : w.heap[q]? = some (.cells #[x] 4 (0, 0))
 ne : b ≠ q
def put5 (w : World) (b q : Nat) (v1 v2 v3 v4 y : Value) : World := ((((w.setCell ⟨b, 0, none⟩ v1).setCell ⟨b, 1, none⟩ v2).setCell ⟨b, 2, none⟩ v3).setCell ⟨b, 3, none⟩ v4).setCell ⟨q, 0, none⟩ y
theorem set_same' {w : World} {b i : Nat} {v : Value} {cs : Array Value} {T : TypeId} {fz : Nat × Nat} (h : w.heap[b]? = some (.cells cs T fz)) : (w.setCell ⟨b, i, none⟩ v).heap[b]? = some (.cells (cs.setIfInBounds i v) T fz) := by
 unfold World.setCell
 simp only [Array.getElem?_modify, if_true, h]
 rfl
theorem set_other {w : World} {b i k : Nat} {v : Value} (h : k ≠ b) : (w.setCell ⟨b, i, none⟩ v).heap[k]? = w.heap[k]? := by
 unfold World.setCell
 simp only [Array.getElem?_modify]
 rw [if_neg (fun e => h e.symm)]
theorem set_size {w : World} {a : Addr} {v : Value} : (w.setCell a v).heap.size = w.heap.size := by simp [World.setCell]
theorem alloc_lt {w : World} {b : Nat} {o : Obj} {X : Obj} (h : w.heap[b]? = some o) : (w.alloc X).heap[b]? = some o := by rw [heap_alloc_get (Array.getElem?_eq_some_iff.1 h).1]; exact h
set_option maxHeartbeats 4000000 in
theorem catch_stop (b q : Nat) (a1 a2 : Int) (a3 : Option Addr) (c3 : Nat) (a4 : ByteArray) (o1 o2 o3 o4 x : Value) (w : World) (K : Kept w b q o1 o2 o3 o4 x) :
  CallsD Tryz.prog 87 #[.pointer (some ⟨b, 0, none⟩), .pointer (some ⟨q, 0, none⟩)] (.panicking [{ v := .iface 106 (.agg #[.int .i64 a1, .int .i64 a2, .slice a3 0 c3, .string a4]), recovered := false }]) w fun e u' w' =>
   e = .returned (.tuple #[]) ∧ u' = .panicking [{ v := .iface 106 (.agg #[.int .i64 a1, .int .i64 a2, .slice a3 0 c3, .string a4]), recovered := true }] ∧
   w' = put5 (w.alloc (.cells #[.int .i64 a1, .int .i64 a2, .slice a3 0 c3, .string a4] 106)) b q (.int .i64 a1) (.int .i64 a2) (.slice a3 0 c3) (.string a4) (.bool true) := by
 obtain ⟨hp, hq, hbq⟩ := K
 have hqb : q ≠ b := fun e => hbq e.symm
 have A0 : ∀ X, (w.alloc X).heap[b]? = some (.cells #[o1, o2, o3, o4] 106 (0, 0)) := fun X => alloc_lt hp
 have c0 : ∀ X, (w.alloc X).cell? ⟨b, 0, none⟩ = some o1 := fun X => cell_of_row _ b 0 _ _ _ (A0 X)
 have f0 : ∀ X, (w.alloc X).frozen? ⟨b, 0, none⟩ = false := fun X => frozen_of_row _ b 0 _ _ (A0 X)
 have A1 : ∀ X v1, ((w.alloc X).setCell ⟨b, 0, none⟩ v1).heap[b]? = some (.cells #[v1, o2, o3, o4] 106 (0, 0)) := fun X v1 => set_same' (alloc_lt hp)
 have c1 : ∀ X v1, ((w.alloc X).setCell ⟨b, 0, none⟩ v1).cell? ⟨b, 1, none⟩ = some o2 := fun X v1 => cell_of_row _ b 1 _ _ _ (A1 X v1)
 have f1 : ∀ X v1, ((w.alloc X).setCell ⟨b, 0, none⟩ v1).frozen? ⟨b, 1, none⟩ = false := fun X v1 => frozen_of_row _ b 1 _ _ (A1 X v1)
 have A2 : ∀ X v1 v2, (((w.alloc X).setCell ⟨b, 0, none⟩ v1).setCell ⟨b, 1, none⟩ v2).heap[b]? = some (.cells #[v1, v2, o3, o4] 106 (0, 0)) := fun X v1 v2 => set_same' (set_same' (alloc_lt hp))
 have c2 : ∀ X v1 v2, (((w.alloc X).setCell ⟨b, 0, none⟩ v1).setCell ⟨b, 1, none⟩ v2).cell? ⟨b, 2, none⟩ = some o3 := fun X v1 v2 => cell_of_row _ b 2 _ _ _ (A2 X v1 v2)
 have f2 : ∀ X v1 v2, (((w.alloc X).setCell ⟨b, 0, none⟩ v1).setCell ⟨b, 1, none⟩ v2).frozen? ⟨b, 2, none⟩ = false := fun X v1 v2 => frozen_of_row _ b 2 _ _ (A2 X v1 v2)
 have A3 : ∀ X v1 v2 v3, ((((w.alloc X).setCell ⟨b, 0, none⟩ v1).setCell ⟨b, 1, none⟩ v2).setCell ⟨b, 2, none⟩ v3).heap[b]? = some (.cells #[v1, v2, v3, o4] 106 (0, 0)) := fun X v1 v2 v3 => set_same' (set_same' (set_same' (alloc_lt hp)))
 have cc3 : ∀ X v1 v2 v3, ((((w.alloc X).setCell ⟨b, 0, none⟩ v1).setCell ⟨b, 1, none⟩ v2).setCell ⟨b, 2, none⟩ v3).cell? ⟨b, 3, none⟩ = some o4 := fun X v1 v2 v3 => cell_of_row _ b 3 _ _ _ (A3 X v1 v2 v3)
 have f3 : ∀ X v1 v2 v3, ((((w.alloc X).setCell ⟨b, 0, none⟩ v1).setCell ⟨b, 1, none⟩ v2).setCell ⟨b, 2, none⟩ v3).frozen? ⟨b, 3, none⟩ = false := fun X v1 v2 v3 => frozen_of_row _ b 3 _ _ (A3 X v1 v2 v3)
 have A4 : ∀ X v1 v2 v3 v4, (((((w.alloc X).setCell ⟨b, 0, none⟩ v1).setCell ⟨b, 1, none⟩ v2).setCell ⟨b, 2, none⟩ v3).setCell ⟨b, 3, none⟩ v4).heap[q]? = some (.cells #[x] 4 (0, 0)) := fun X v1 v2 v3 v4 => by rw [set_other hqb, set_other hqb, set_other hqb, set_other hqb]; exact alloc_lt hq
 have cq : ∀ X v1 v2 v3 v4, (((((w.alloc X).setCell ⟨b, 0, none⟩ v1).setCell ⟨b, 1, none⟩ v2).setCell ⟨b, 2, none⟩ v3).setCell ⟨b, 3, none⟩ v4).cell? ⟨q, 0, none⟩ = some x := fun X v1 v2 v3 v4 => cell_of_row _ q 0 _ _ _ (A4 X v1 v2 v3 v4)
 have fq : ∀ X v1 v2 v3 v4, (((((w.alloc X).setCell ⟨b, 0, none⟩ v1).setCell ⟨b, 1, none⟩ v2).setCell ⟨b, 2, none⟩ v3).setCell ⟨b, 3, none⟩ v4).frozen? ⟨q, 0, none⟩ = false := fun X v1 v2 v3 v4 => frozen_of_row _ q 0 _ _ (A4 X v1 v2 v3 v4)
 clear hp hq A0 A1 A2 A3 A4
 refine callsD_of_wpS Tryz.func87 rfl fun c₀ cs hu => ?_
 apply wpS_seq
 apply wpS_region
 simp [wpOpsS, go_sem, recoverD, hu, Tryz.ntmps87, Exit.thenS]
 refine wpS_of_wp ?_
 go_wp2
 refine ⟨rfl, _, rfl, .tuple #[], ?_, rfl, rfl, rfl⟩
 simp [results, Tryz.results87]
def two (W : World) : World := (W.alloc (.cells #[.int .i64 0, .int .i64 0, .slice none 0 0, .string ⟨#[]⟩] 106)).alloc (.cells #[.bool false] 4)
theorem Kept.alloc {w : World} {b q : Nat} {o1 o2 o3 o4 x : Value} (K : Kept w b q o1 o2 o3 o4 x) (X : Obj) : Kept (w.alloc X) b q o1 o2 o3 o4 x := ⟨alloc_lt K.hp, alloc_lt K.hq, K.ne⟩
theorem set4_other {w : World} {b q : Nat} (h : q ≠ b) (v1 v2 v3 v4 : Value) : ((((w.setCell ⟨b, 0, none⟩ v1).setCell ⟨b, 1, none⟩ v2).setCell ⟨b, 2, none⟩ v3).setCell ⟨b, 3, none⟩ v4).heap[q]? = w.heap[q]? := by
 rw [set_other h, set_other h, set_other h, set_other h]
theorem Kept.put {w : World} {b q : Nat} {o1 o2 o3 o4 x : Value} (K : Kept w b q o1 o2 o3 o4 x) (v1 v2 v3 v4 y : Value) : Kept (put5 w b q v1 v2 v3 v4 y) b q v1 v2 v3 v4 y := by
 have hqb : q ≠ b := fun e => K.ne e.symm
 refine ⟨?_, ?_, K.ne⟩
 ·unfold put5
  rw [set_other K.ne]
  exact set_same' (set_same' (set_same' (set_same' K.hp)))
 ·unfold put5
  have h := K.hq
  rw [← set4_other hqb v1 v2 v3 v4] at h
  exact set_same' h
set_option maxHeartbeats 4000000 in
theorem run_answer {W : World} {b q : Nat} {v1 v2 v3 v4 y : Value} (K : Kept W b q v1 v2 v3 v4 y) (n1 n2 n3 n4 n5 n6 n7 n8 : Value) : (results Tryz.f49 #[n1, n2, n3, n4, .pointer (some ⟨b, 0, none⟩), .pointer (some ⟨q, 0, none⟩), n5, n6, n7, n8]).run Tryz.prog W = .ok (.tuple #[.agg #[v1, v2, v3, v4], y]) W := by
 have c0 : W.cell? ⟨b, 0, none⟩ = some v1 := cell_of_row _ b 0 _ _ _ K.hp
 have c1 : W.cell? ⟨b, 1, none⟩ = some v2 := cell_of_row _ b 1 _ _ _ K.hp
 have c2 : W.cell? ⟨b, 2, none⟩ = some v3 := cell_of_row _ b 2 _ _ _ K.hp
 have c3 : W.cell? ⟨b, 3, none⟩ = some v4 := cell_of_row _ b 3 _ _ _ K.hp
 have c4 : W.cell? ⟨q, 0, none⟩ = some y := cell_of_row _ q 0 _ _ _ K.hq
 simp [results, Tryz.results49, go_sem, c0, c1, c2, c3, c4]
set_option maxHeartbeats 4000000 in
theorem run_stops (m : Value) (us : Array Value) (W : World) (a1 a2 : Int) (P : Option Addr → Nat → ByteArray → World → Prop)
  (hB : Calls Tryz.prog 50 us (two W) fun e W1 => ∃ a3 c3 a4, e = .panicked [{ v := .iface 106 (.agg #[.int .i64 a1, .int .i64 a2, .slice a3 0 c3, .string a4]), recovered := false }] ∧ P a3 c3 a4 W1)
  (hK : ∀ a3 c3 a4 W1, P a3 c3 a4 W1 → Kept W1 W.heap.size (W.heap.size + 1) (.int .i64 0) (.int .i64 0) (.slice none 0 0) (.string ⟨#[]⟩) (.bool false)) :
  Calls Tryz.prog 49 #[m, .func (.func 50) #[] us] W fun e W' => ∃ a3 c3 a4 W1, e = .returned (.tuple #[.agg #[.int .i64 a1, .int .i64 a2, .slice a3 0 c3, .string a4], .bool true]) ∧ P a3 c3 a4 W1 ∧
   W' = put5 (W1.alloc (.cells #[.int .i64 a1, .int .i64 a2, .slice a3 0 c3, .string a4] 106)) W.heap.size (W.heap.size + 1) (.int .i64 a1) (.int .i64 a2) (.slice a3 0 c3) (.string a4) (.bool true) := by
 have hmf : ∀ (fn : Fn) (first cap : Array Value) (w : World), (Instr.makeFunc fn first cap).run Tryz.prog w = .ok (.func fn first cap) w := fun _ _ _ _ => rfl
 unfold two at hB
 go_enter_defers Tryz.func49, Tryz.ntmps49
 go_wp2_with (go_at_call 50; refine hB.mono ?_; rintro e W1 ⟨a3, c3, a4, rfl, hp⟩)
 have K := hK a3 c3 a4 W1 hp
 refine leaves_cons (f := 87) (args := #[.pointer (some ⟨W.heap.size, 0, none⟩), .pointer (some ⟨W.heap.size + 1, 0, none⟩)]) (by simp) (by simp [go_sem]) ?_
 refine (catch_stop _ _ a1 a2 a3 c3 a4 _ _ _ _ _ W1 K).mono ?_
 rintro e u' w'' ⟨rfl, rfl, rfl⟩
 exact ⟨_, run_answer ((K.alloc _).put _ _ _ _ _) _ _ _ _ _ _ _ _, a3, c3, a4, W1, rfl, hp, rfl⟩
theorem storeKept {W : World} {b q : Nat} {o1 o2 o3 o4 x : Value} (K : Kept W b q o1 o2 o3 o4 x) : (W.cell? ⟨b, 0, none⟩ = some o1) ∧ (W.frozen? ⟨b, 0, none⟩ = false) ∧ (∀ v1 : Value, (W.setCell ⟨b, 0, none⟩ v1).cell? ⟨b, 1, none⟩ = some o2) ∧ (∀ v1 : Value, (W.setCell ⟨b, 0, none⟩ v1).frozen? ⟨b, 1, none⟩ = false) ∧ (∀ v1 v2 : Value, ((W.setCell ⟨b, 0, none⟩ v1).setCell ⟨b, 1, none⟩ v2).cell? ⟨b, 2, none⟩ = some o3) ∧ (∀ v1 v2 : Value, ((W.setCell ⟨b, 0, none⟩ v1).setCell ⟨b, 1, none⟩ v2).frozen? ⟨b, 2, none⟩ = false) ∧ (∀ v1 v2 v3 : Value, (((W.setCell ⟨b, 0, none⟩ v1).setCell ⟨b, 1, none⟩ v2).setCell ⟨b, 2, none⟩ v3).cell? ⟨b, 3, none⟩ = some o4) ∧ (∀ v1 v2 v3 : Value, (((W.setCell ⟨b, 0, none⟩ v1).setCell ⟨b, 1, none⟩ v2).setCell ⟨b, 2, none⟩ v3).frozen? ⟨b, 3, none⟩ = false) ∧ (∀ v1 v2 v3 v4 : Value, ((((W.setCell ⟨b, 0, none⟩ v1).setCell ⟨b, 1, none⟩ v2).setCell ⟨b, 2, none⟩ v3).setCell ⟨b, 3, none⟩ v4).cell? ⟨q, 0, none⟩ = some x) ∧ (∀ v1 v2 v3 v4 : Value, ((((W.setCell ⟨b, 0, none⟩ v1).setCell ⟨b, 1, none⟩ v2).setCell ⟨b, 2, none⟩ v3).setCell ⟨b, 3, none⟩ v4).frozen? ⟨q, 0, none⟩ = false) := by
 have hqb : q ≠ b := fun e => K.ne e.symm
 exact ⟨cell_of_row _ b 0 _ _ _ (K.hp), frozen_of_row _ b 0 _ _ (K.hp), fun v1 => cell_of_row _ b 1 _ _ _ (set_same' (K.hp)), fun v1 => frozen_of_row _ b 1 _ _ (set_same' (K.hp)), fun v1 v2 => cell_of_row _ b 2 _ _ _ (set_same' (set_same' (K.hp))), fun v1 v2 => frozen_of_row _ b 2 _ _ (set_same' (set_same' (K.hp))), fun v1 v2 v3 => cell_of_row _ b 3 _ _ _ (set_same' (set_same' (set_same' (K.hp)))), fun v1 v2 v3 => frozen_of_row _ b 3 _ _ (set_same' (set_same' (set_same' (K.hp)))), fun v1 v2 v3 v4 => cell_of_row _ q 0 _ _ _ ((set4_other hqb v1 v2 v3 v4).trans K.hq), fun v1 v2 v3 v4 => frozen_of_row _ q 0 _ _ ((set4_other hqb v1 v2 v3 v4).trans K.hq)⟩
set_option maxHeartbeats 4000000 in
theorem run_ends (m : Value) (us : Array Value) (W : World) (P : World → Prop)
  (hB : Calls Tryz.prog 50 us (two W) fun e W1 => e = .returned (.tuple #[]) ∧ P W1)
  (hK : ∀ W1, P W1 → Kept W1 W.heap.size (W.heap.size + 1) (.int .i64 0) (.int .i64 0) (.slice none 0 0) (.string ⟨#[]⟩) (.bool false)) :
  Calls Tryz.prog 49 #[m, .func (.func 50) #[] us] W fun e W' => e = .returned (.tuple #[.agg #[.int .i64 0, .int .i64 0, .slice none 0 0, .string ⟨#[]⟩], .bool false]) ∧ ∃ W1, P W1 ∧
   W' = put5 W1 W.heap.size (W.heap.size + 1) (.int .i64 0) (.int .i64 0) (.slice none 0 0) (.string ⟨#[]⟩) (.bool false) := by
 have hmf : ∀ (fn : Fn) (first cap : Array Value) (w : World), (Instr.makeFunc fn first cap).run Tryz.prog w = .ok (.func fn first cap) w := fun _ _ _ _ => rfl
 unfold two at hB
 go_enter_defers Tryz.func49, Tryz.ntmps49
 go_wp2_with (go_at_call 50; refine hB.mono ?_; rintro e W1 ⟨rfl, hp⟩; have K := hK W1 hp; have hw := storeKept K)
 refine leaves_cons (f := 87) (args := #[.pointer (some ⟨W.heap.size, 0, none⟩), .pointer (some ⟨W.heap.size + 1, 0, none⟩)]) (by simp) (by simp [go_sem]) ?_
 refine (catch_idle _ _ _).mono ?_
 rintro e u' w'' ⟨rfl, rfl, rfl⟩
 exact ⟨_, run_answer (K.put _ _ _ _ _) _ _ _ _ _ _ _ _, rfl, W1, hp, rfl⟩
end Go.Proofs.YtpbdjgdmhfibmaaGreatDoor
set_option linter.all false
namespace Go.Proofs.YtpbdjgdmhfibmaaGreatDoor
open Go.Abs
attribute [local congr] ite_congr
set_option maxRecDepth 100000
theorem run1P {A : AHeap} {x : Ids} {S : Nat} {m : Mc} (hSb : S ≤ 33554432) (l : List Stm) (hlen : l.length ≤ 4194303) (hok : ∀ s ∈ l, s.Ok) (hw : slW S l) (hS : HS A x m) (hx : XI S m 0) (hst : m.steps ≤ 16384) {a b : Nat} {c0 c1 : AV} (ha : A.objs[a]? = some (.cells [.ptr x.m 0])) (hb : A.objs[b]? = some (.cells [c0, c1, .d (.slice (l.map Stm.row))])) :
  Does 50 [.ptr a 0, .ptr b 0] A x (exL l m).rs := by
 have hd := blockAll x hSb l hlen hok hw hS hx hst
 cases hr : exL l m with
 | ok mF =>
   rw [hr] at hd
   obtain ⟨D, e1, e2, e3⟩ := hd
   obtain ⟨k1, k2⟩ := keep_fin (f := 50) (v := .tuple []) nice_t hS e2 e3
   refine ⟨_, ?_, k1, k2⟩
   have e := fun B => finR (f := 50) (A := A) (B := B) nice_t
   rw [k_call (c := C) (f := 50) rfl Tryz.func50 rfl (ok 50 (by kernel_rfl)) rfl Tryz.ntmps50 Tryz.results50 (by simp)]
   simp (maxSteps := 1000000) only [go_sem, acondK_bool, ha, hb, e1, e]
 | stop z mF =>
   rw [hr] at hd
   obtain ⟨D, e2, e3, e1⟩ := hd
   obtain ⟨k1, k2⟩ := keep_fin (f := 50) (v := z.av) (nice_s _) hS e2 e3
   refine ⟨_, k1, k2, fun R hR => ?_⟩
   have no := pcl_no pxNo (e1 (fun _ _ => True) trivial)
   refine k_pan (c := C) (f := 50) rfl Tryz.func50 rfl (ok 50 (by kernel_rfl)) rfl Tryz.ntmps50 Tryz.results50 (by simp) ?_
   simp (maxSteps := 1000000) only [go_sem, acondK_bool, ha, hb, no]
   exact e1 _ ((post_fin (nice_s _)).2 hR)
theorem prow_inj : ∀ {a b : List Kv}, a.map Kv.row = b.map Kv.row → a = b
 | [], [], _ => rfl
 | [], _ :: _, h => by simp at h
 | _ :: _, [], h => by simp at h
 | ⟨k, ⟨x, n, s⟩⟩ :: a, ⟨k', ⟨x', n', s'⟩⟩ :: b, h => by
   simp only [List.map_cons, List.cons.injEq, Kv.row, Dat.str.injEq, Dat.int.injEq, true_and, and_true] at h
   obtain ⟨⟨rfl, rfl, rfl, rfl⟩, h2⟩ := h
   rw [prow_inj h2]
theorem vrow_inj : ∀ {a b : List Vl}, a.map Vl.row = b.map Vl.row → a = b
 | [], [], _ => rfl
 | [], _ :: _, h => by simp at h
 | _ :: _, [], h => by simp at h
 | ⟨x, n, s⟩ :: a, ⟨x', n', s'⟩ :: b, h => by
   simp only [List.map_cons, List.cons.injEq, Vl.row, Dat.str.injEq, Dat.int.injEq, true_and, and_true] at h
   obtain ⟨⟨rfl, rfl, rfl⟩, h2⟩ := h
   rw [vrow_inj h2]
theorem srow_inj : ∀ {a b : List Bytes}, srow a = srow b → a = b
 | [], [], _ => rfl
 | [], _ :: _, h => by simp [srow] at h
 | _ :: _, [], h => by simp [srow] at h
 | s :: a, s' :: b, h => by
   simp only [srow, List.map_cons, List.cons.injEq, Dat.str.injEq, and_true] at h
   obtain ⟨rfl, h2⟩ := h
   rw [srow_inj h2]
theorem mapE_inj : ∀ {a b : List (Bytes × Vl)}, mapE a = mapE b → a = b
 | [], [], _ => rfl
 | [], _ :: _, h => by simp [mapE] at h
 | _ :: _, [], h => by simp [mapE] at h
 | ⟨k, ⟨x, n, s⟩⟩ :: a, ⟨k', ⟨x', n', s'⟩⟩ :: b, h => by
   simp only [mapE, List.map_cons, List.cons.injEq, Prod.mk.injEq, Vl.av, Dat.str.injEq, AV.agg.injEq, AV.d.injEq, Dat.int.injEq, true_and, and_true] at h
   obtain ⟨⟨rfl, rfl, rfl, rfl⟩, h2⟩ := h
   rw [mapE_inj h2]
theorem stm_inj {a b : List Stm} (h : a.map Stm.row = b.map Stm.row) : a = b := by
 have := rdSRows_rows a
 rw [h, rdSRows_rows b] at this
 exact (Option.some.inj this).symm
theorem ownS_inj {bs : List ABuf} {v : AV} {e sz : Nat} {r r' : List (List Dat)} (h : ownS bs v e sz r) (h' : ownS bs v e sz r') : r = r' := by
 rcases h with ⟨rfl, rfl⟩ | ⟨t, rfl, hb⟩
 ·rcases h' with ⟨_, rfl⟩ | ⟨t', h1, _⟩
  ·rfl
  ·cases h1
 ·rcases h' with ⟨h1, _⟩ | ⟨t', h1, hb'⟩
  ·cases h1
  ·obtain ⟨rfl, _⟩ : t = t' ∧ True := by simp only [AV.own.injEq] at h1; exact ⟨h1.1, trivial⟩
   rw [hb] at hb'
   cases hb'
   rfl
theorem HS.inj {A : AHeap} {x x' : Ids} {m m' : Mc} (h : HS A x m) (h' : HS A x' m') (hm : x.m = x'.m) : x = x' ∧ m = m' := by
 obtain ⟨ov, rv, wv, h⟩ := h
 obtain ⟨ov', rv', wv', h'⟩ := h'
 have hc := h.cell
 rw [hm, h'.cell] at hc
 simp only [Option.some.injEq, AObj.cells.injEq, mcell, List.cons.injEq, AV.d.injEq, Dat.slice.injEq, Dat.bool.injEq, AV.mapr.injEq, Dat.int.injEq, true_and, and_true] at hc
 obtain ⟨s1, s2, s3, s4, s5, s6, s7, s8, s9, s10⟩ := hc
 obtain ⟨xm, xv, xo⟩ := x
 obtain ⟨xm', xv', xo'⟩ := x'
 simp only at hm s5 s6
 subst hm s5 s6 s7 s8 s9
 refine ⟨rfl, ?_⟩
 have v1 := h.vars
 rw [h'.vars] at v1
 have v2 := h.own
 rw [h'.own] at v2
 simp only [Option.some.injEq, AObj.map.injEq] at v1 v2
 have o1 := vrow_inj (ownS_inj h.out h'.out)
 have o2 := srow_inj (ownS_inj h.rd h'.rd)
 have o3 := srow_inj (ownS_inj h.wr h'.wr)
 obtain ⟨q1, q2, q3, q4, q5, q6, q7, q8, q9, q10⟩ := m
 obtain ⟨p1, p2, p3, p4, p5, p6, p7, p8, p9, p10⟩ := m'
 simp only at s1 s2 s3 s4 s10 v1 v2 o1 o2 o3
 rw [prow_inj s1, s2, srow_inj s3, srow_inj s4, mapE_inj v1, mapE_inj v2, o1, o2, o3, s10]
end Go.Proofs.YtpbdjgdmhfibmaaGreatDoor
set_option linter.all false
namespace Go.Proofs.YtpbdjgdmhfibmaaGreatDoor
open Go.Abs Go.RowKit Go.Shelf
set_option maxRecDepth 100000
def noS : Stp := ⟨0, 0, []⟩
structure RunPre (A : AHeap) (i a b : Nat) (x : Ids) (m : Mc) (l : List Stm) (S : Nat) : Prop where
 xm : x.m = i
 hs : HS A x m
 pa : A.objs[a]? = some (.cells [.ptr i 0])
 pb : ∃ c0 c1, A.objs[b]? = some (.cells [c0, c1, .d (.slice (l.map Stm.row))])
 Sb : S ≤ 33554432
 len : l.length ≤ 4194303
 ok : ∀ s ∈ l, s.Ok
 w : slW S l
 xi : XI S m 0
 st : m.steps ≤ 16384
def RunPost (A : AHeap) (a b : Nat) (x : Ids) (r : AV × AHeap) : Rx → Prop
 | .ok m' => r.1 = .tuple [noS.av, .d (.bool false)] ∧ acl C 50 [.ptr a 0, .ptr b 0] A = some (.tuple [], r.2) ∧ HS r.2 x m' ∧ Keep A r.2 x
 | .stop z m' => r.1 = .tuple [z.av, .d (.bool true)] ∧ pcl C px 50 [.ptr a 0, .ptr b 0] A (fun y B => y = z.av ∧ B = r.2) ∧ HS r.2 x m' ∧ Keep A r.2 x
def RunGood (A : AHeap) (i a b : Nat) (r : AV × AHeap) : Prop := ∃ x m l S, RunPre A i a b x m l S ∧ RunPost A a b x r (exL l m)
noncomputable def runF (A : AHeap) (i a b : Nat) : Option (AV × AHeap) := open Classical in if h : ∃ r, RunGood A i a b r then some (Classical.choose h) else none
noncomputable def runFn : AFun := fun args A => match args with
 | [.ptr i 0, .func (.func f) [] [.ptr a 0, .ptr b 0]] => if f = 50 then runF A i a b else none
 | _ => none
theorem run_post {A : AHeap} {i a b : Nat} {x : Ids} {m : Mc} {l : List Stm} {S : Nat} (h : RunPre A i a b x m l S) : ∃ r, runFn [.ptr i 0, .func (.func 50) [] [.ptr a 0, .ptr b 0]] A = some r ∧ RunPost A a b x r (exL l m) := by
 have hex : ∃ r, RunGood A i a b r := by
  obtain ⟨c0, c1, pb⟩ := h.pb
  have pa := h.pa
  rw [← h.xm] at pa
  have hd := run1P h.Sb l h.len h.ok h.w h.hs h.xi h.st pa pb
  cases hr : exL l m with
  | ok mF =>
    rw [hr] at hd
    obtain ⟨D, e1, e2, e3⟩ := hd
    exact ⟨(_, D), x, m, l, S, h, by rw [hr]; exact ⟨rfl, e1, e2, e3⟩⟩
  | stop z mF =>
    rw [hr] at hd
    obtain ⟨D, e2, e3, e1⟩ := hd
    exact ⟨(_, D), x, m, l, S, h, by rw [hr]; exact ⟨rfl, e1 _ ⟨rfl, rfl⟩, e2, e3⟩⟩
 have hsp := Classical.choose_spec hex
 refine ⟨Classical.choose hex, ?_, ?_⟩
 ·show (if 50 = 50 then runF A i a b else none) = _
  rw [if_pos rfl]
  unfold runF
  rw [dif_pos hex]
 ·obtain ⟨x', m', l', S', h', hp⟩ := hsp
  obtain ⟨rfl, rfl⟩ := h.hs.inj h'.hs (by rw [h.xm, h'.xm])
  obtain ⟨c0, c1, pb⟩ := h.pb
  obtain ⟨c0', c1', pb'⟩ := h'.pb
  rw [pb] at pb'
  simp only [Option.some.injEq, AObj.cells.injEq, List.cons.injEq, AV.d.injEq, Dat.slice.injEq, and_true] at pb'
  rw [stm_inj pb'.2.2]
  exact hp
structure Free (g : Gh) (b : Nat) : Prop where
 own : g.own b = none
 st : ∀ o, ¬ g.S b o
theorem loose {W0 W : World} {g0 g : Gh} {A0 A : AHeap} (hw : WRel W g A) (he : Ev W0 g0 A0 W g A) {b i : Nat} {v : Value} (hf : Free g b) (hb : W0.heap.size ≤ b) : WRel (W.setCell ⟨b, i, none⟩ v) g A ∧ Ev W0 g0 A0 (W.setCell ⟨b, i, none⟩ v) g A := by
 have hl : Local W (W.setCell ⟨b, i, none⟩ v) b := ⟨set_size, fun k hk => set_other hk, ⟨rfl, rfl⟩⟩
 exact ⟨hw.loc hl hf.st hf.own, he.loc hl hf.st hb⟩
theorem loose5 {W0 W : World} {g0 g : Gh} {A0 A : AHeap} (hw : WRel W g A) (he : Ev W0 g0 A0 W g A) {b q : Nat} (hf : Free g b) (hq : Free g q) (hb : W0.heap.size ≤ b) (hbq : W0.heap.size ≤ q) (v1 v2 v3 v4 y : Value) : WRel (put5 W b q v1 v2 v3 v4 y) g A ∧ Ev W0 g0 A0 (put5 W b q v1 v2 v3 v4 y) g A := by
 obtain ⟨w1, e1⟩ := loose (i := 0) (v := v1) hw he hf hb
 obtain ⟨w2, e2⟩ := loose (i := 1) (v := v2) w1 e1 hf hb
 obtain ⟨w3, e3⟩ := loose (i := 2) (v := v3) w2 e2 hf hb
 obtain ⟨w4, e4⟩ := loose (i := 3) (v := v4) w3 e3 hf hb
 exact loose (i := 0) (v := y) w4 e4 hq hbq
theorem kept_of {W W1 : World} {g g1 : Gh} {A A1 : AHeap} (hw : WRel W g A) (he : Ev (two W) g A W1 g1 A1) :
  Kept W1 W.heap.size (W.heap.size + 1) (.int .i64 0) (.int .i64 0) (.slice none 0 0) (.string ⟨#[]⟩) (.bool false) ∧ Free g1 W.heap.size ∧ Free g1 (W.heap.size + 1) := by
 have sz : (two W).heap.size = W.heap.size + 2 := by simp [two]
 have no : ∀ b, W.heap.size ≤ b → g.own b = none := fun b hb => by
  cases ho : g.own b with
  | none => rfl
  | some o => have := hw.lt _ _ ho; omega
 have nS : ∀ b, W.heap.size ≤ b → ∀ o, ¬ g.S b o := fun b hb o hs => by have := hw.stab _ _ hs; omega
 have h0 : (two W).heap[W.heap.size]? = some (.cells #[.int .i64 0, .int .i64 0, .slice none 0 0, .string ⟨#[]⟩] 106 (0, 0)) := alloc_lt (heap_alloc_new W _)
 have h1 : (two W).heap[W.heap.size + 1]? = some (.cells #[.bool false] 4 (0, 0)) := by
  have := heap_alloc_new (W.alloc (.cells #[.int .i64 0, .int .i64 0, .slice none 0 0, .string ⟨#[]⟩] 106)) (.cells #[.bool false] 4)
  simpa [two] using this
 obtain ⟨f1, f2, f3⟩ := he.free W.heap.size (by omega) (no _ (Nat.le_refl _))
 obtain ⟨k1, k2, k3⟩ := he.free (W.heap.size + 1) (by omega) (no _ (by omega))
 exact ⟨⟨by rw [f1]; exact h0, by rw [k1]; exact h1, by omega⟩, ⟨f2, fun o x => nS _ (Nat.le_refl _) o (f3 o x)⟩, ⟨k2, fun o x => nS _ (by omega) o (k3 o x)⟩⟩
theorem func_args {W : World} {g : Gh} {A : AHeap} {f : FuncId} {a b : Nat} {v : Value} (h : RelV W g A (.func (.func f) [] [.ptr a 0, .ptr b 0]) v) : ∃ us : List Value, v = .func (.func f) #[] us.toArray ∧ RelL W g A [.ptr a 0, .ptr b 0] us := by
 cases h with
 | func fn first captured vs us h1 h2 r1 r2 =>
   have : vs = [] := List.eq_nil_of_length_eq_zero (by simpa using h1.symm)
   subst this
   exact ⟨us, rfl, h2, r2⟩
theorem stop_value {W : World} {g : Gh} {A : AHeap} {z : Stp} {v : Value} (h : RelV W g A z.av v) : ∃ (a3 : Option Addr) (c3 : Nat) (a4 : ByteArray), v = .agg #[.int .i64 z.st, .int .i64 z.code, .slice a3 0 c3, .string a4] ∧ a4.data.toList = z.miss := by
 unfold Stp.av at h
 cases h with
 | agg cs vs hl hr =>
   match vs, hl with
   | [v0, v1, v2, v3], _ =>
     have h0 := hr 0 _ _ rfl rfl
     have h1 := hr 1 _ _ rfl rfl
     have h2 := hr 2 _ _ rfl rfl
     have h3 := hr 3 _ _ rfl rfl
     cases h0 with | d _ _ h0 => cases h0; cases h1 with | d _ _ h1 => cases h1; cases h2 with | d _ _ h2 => cases h3 with | d _ _ h3 =>
      have h2' : ∃ a c, v2 = .slice a 0 c := by
       generalize hq : Dat.slice [] = d at h2
       cases h2 with
       | empty a cap => exact ⟨a, cap, rfl⟩
       | slice rows b o cap sz val => simp only [Dat.slice.injEq] at hq; subst hq; exact ⟨_, cap, rfl⟩
       | _ => cases hq
      obtain ⟨a, c, rfl⟩ := h2'
      generalize hq : z.miss = ms at h3
      cases h3 with
      | str s => exact ⟨a, c, s, rfl, rfl⟩
theorem stop_rel {W : World} {g : Gh} {A : AHeap} {z : Stp} {b : Bool} {a3 : Option Addr} {c3 : Nat} {a4 : ByteArray} (h : a4.data.toList = z.miss) : RelV W g A (.tuple [z.av, .d (.bool b)]) (.tuple #[.agg #[.int .i64 z.st, .int .i64 z.code, .slice a3 0 c3, .string a4], .bool b]) := by
 refine .tuple _ [.agg #[.int .i64 z.st, .int .i64 z.code, .slice a3 0 c3, .string a4], .bool b] rfl fun i x v k1 k2 => ?_
 match i with
 | 0 =>
   simp at k1 k2; subst k1; subst k2
   refine .agg _ [.int .i64 z.st, .int .i64 z.code, .slice a3 0 c3, .string a4] rfl fun i x v k1 k2 => ?_
   match i with
   | 0 => simp at k1 k2; subst k1; subst k2; exact .d _ _ (.int _ _)
   | 1 => simp at k1 k2; subst k1; subst k2; exact .d _ _ (.int _ _)
   | 2 => simp at k1 k2; subst k1; subst k2; exact .d _ _ (.empty _ _)
   | 3 => simp at k1 k2; subst k1; subst k2; rw [← h]; exact .d _ _ (.str a4)
   | i + 4 => simp at k2
 | 1 => simp at k1 k2; subst k1; subst k2; exact .d _ _ (.bool _)
 | i + 2 => simp at k2
theorem run_okI : CallOk1I Tryz.prog IT 49 runFn := by
 intro xs A r A' hx
 unfold runFn at hx
 split at hx
 case h_2 => cases hx
 rename_i i f a b
 split at hx
 case isFalse => cases hx
 rename_i hf
 subst hf
 unfold runF at hx
 split at hx
 case isFalse => cases hx
 rename_i hex
 obtain ⟨x, m, l, S, hpre, hpost⟩ := Classical.choose_spec hex
 simp only [Option.some.injEq] at hx
 rw [hx] at hpost
 refine ⟨⟨_, Tryz.func49, by kernel_rfl, by kernel_rfl⟩, fun W g vs hi hw hr => ?_⟩
 obtain ⟨mv, fv, rfl, hmv, hfv⟩ := two_args hr
 obtain ⟨us, rfl, hus⟩ := func_args hfv
 have p1 : Go.Abs.plainObj (.cells #[.int .i64 0, .int .i64 0, .slice none 0 0, .string ⟨#[]⟩] 106) := by trivial
 have p2 : Go.Abs.plainObj (.cells #[.bool false] 4) := by trivial
 have w2 : WRel (two W) g A := WRel.alloc (WRel.alloc hw p1) p2
 have e2 : Ev W g A (two W) g A := (Ev.alloc hw p1).trans (Ev.alloc (WRel.alloc hw p1) p2)
 have i2 : IT (two W) g := IT_closed _ _ _ _ _ _ hi e2
 have r2 : RelL (two W) g A [.ptr a 0, .ptr b 0] us := ⟨hus.1, fun i x v k1 k2 => e2.toEvV.relV (hus.2 i x v k1 k2)⟩
 cases hrr : exL l m with
 | ok mF =>
   rw [hrr] at hpost
   obtain ⟨q1, q2, q3, q4⟩ := hpost
   simp only at q1 q2
   have hc := (acl_okI IT_closed mixed extOkI _ _ _ _ _ q2).2 (two W) g us i2 w2 r2
   have hB : Calls Tryz.prog 50 us.toArray (two W) fun e W1 => e = .returned (.tuple #[]) ∧ ∃ g1, WRel W1 g1 A' ∧ Ev (two W) g A W1 g1 A' := by
    refine Calls.mono hc ?_
    rintro e W1 ⟨v, g1, rfl, k1, k2, k3⟩
    refine ⟨?_, g1, k2, k3⟩
    cases k1 with
    | tuple cs vs hl hr =>
      have : vs = [] := List.eq_nil_of_length_eq_zero (by simpa using hl.symm)
      subst this
      rfl
   refine (run_ends mv us.toArray W _ hB (fun W1 ⟨g1, k1, k2⟩ => (kept_of hw k2).1)).mono ?_
   rintro e W' ⟨rfl, W1, ⟨g1, k1, k2⟩, rfl⟩
   obtain ⟨K, F1, F2⟩ := kept_of hw k2
   obtain ⟨w5, e5⟩ := loose5 k1 (e2.trans k2) F1 F2 (Nat.le_refl _) (by omega) (.int .i64 0) (.int .i64 0) (.slice none 0 0) (.string ⟨#[]⟩) (.bool false)
   exact ⟨_, g1, rfl, by rw [q1]; exact stop_rel (z := noS) rfl, w5, e5⟩
 | stop z mF =>
   rw [hrr] at hpost
   obtain ⟨q1, ⟨y, B, q2, hy, hB'⟩, q3, q4⟩ := hpost
   rw [hy, hB'] at q2
   simp only at q1 q2
   have hc := (pan_ok IT_closed mixed extOkI pxOk q2).2 (two W) g us i2 w2 r2
   have hB : Calls Tryz.prog 50 us.toArray (two W) fun e W1 => ∃ a3 c3 a4, e = .panicked [{ v := .iface 106 (.agg #[.int .i64 z.st, .int .i64 z.code, .slice a3 0 c3, .string a4]), recovered := false }] ∧ a4.data.toList = z.miss ∧ ∃ g1, WRel W1 g1 A' ∧ Ev (two W) g A W1 g1 A' := by
    refine Calls.mono hc ?_
    rintro e W1 ⟨v, g1, rfl, k1, k2, k3⟩
    obtain ⟨a3, c3, a4, rfl, h4⟩ := stop_value k1
    exact ⟨a3, c3, a4, rfl, h4, g1, k2, k3⟩
   refine (run_stops mv us.toArray W _ _ _ hB (fun a3 c3 a4 W1 ⟨_, g1, k1, k2⟩ => (kept_of hw k2).1)).mono ?_
   rintro e W' ⟨a3, c3, a4, W1, rfl, ⟨h4, g1, k1, k2⟩, rfl⟩
   have p3 : Go.Abs.plainObj (.cells #[.int .i64 z.st, .int .i64 z.code, .slice a3 0 c3, .string a4] 106) := by trivial
   obtain ⟨K, F1, F2⟩ := kept_of hw k2
   obtain ⟨w5, e5⟩ := loose5 (WRel.alloc k1 p3) ((e2.trans k2).trans (Ev.alloc k1 p3)) F1 F2 (Nat.le_refl _) (by omega) (.int .i64 z.st) (.int .i64 z.code) (.slice a3 0 c3) (.string a4) (.bool true)
   exact ⟨_, g1, rfl, by rw [q1]; exact stop_rel h4, w5, e5⟩
end Go.Proofs.YtpbdjgdmhfibmaaGreatDoor
set_option linter.all false
namespace Go.Proofs.YtpbdjgdmhfibmaaGreatDoor
open Go.Abs
set_option maxRecDepth 10000
noncomputable def extD (f : FuncId) : Option AFun := bif Nat.beq f 117 then some (outFn fstF) else bif Nat.beq f 49 then some runFn else bif Nat.beq f 8 then none else C.ext f
noncomputable def D : ACtx := { C with ext := extD }
theorem extOkD : ∀ f h, D.ext f = some h → CallOk1I D.P IT f h := by
 intro f h hf
 have key : D.ext f = extD f := rfl
 rw [key] at hf
 unfold extD at hf
 cases h1 : Nat.beq f 117 with
 | true =>
   rw [h1] at hf
   cases hf
   obtain rfl : f = 117 := Nat.eq_of_beq_eq_true h1
   exact fst_okI
 | false =>
 cases h2 : Nat.beq f 49 with
 | true =>
   rw [h1, h2] at hf
   cases hf
   obtain rfl : f = 49 := Nat.eq_of_beq_eq_true h2
   exact run_okI
 | false =>
 cases h3 : Nat.beq f 8 with
 | true => rw [h1, h2, h3] at hf; cases hf
 | false => rw [h1, h2, h3] at hf; exact extOkI f h hf
theorem mixedD : D.P.follows .mixedOrders = true := mixed
@[go_sem] theorem D_P : D.P = Tryz.prog := by rfl
@[go_sem] theorem D_live : D.live = C.live := by rfl
@[go_sem] theorem D_esc : D.esc = C.esc := by rfl
@[go_sem] theorem D_own : D.own = C.own := by rfl
@[go_sem] theorem D_typed : D.typed = C.typed := by rfl
theorem up {f : FuncId} {args : List AV} {A : AHeap} {r : AV × AHeap} (h : acl C f args A = some r) : acl D f args A = some r := by
 refine acl_up (c := C) (e := extD) (fun f => ?_) h
 have k1 : C.ext f = bif extL.contains f then some failFn else extT f := rfl
 have fl : extL.contains f = true → ∃ k, C.ext f = some k ∧ ∀ args A r, k args A = some r → ∃ k', extD f = some k' ∧ k' args A = some r := fun hb => by
  rw [hb] at k1
  exact ⟨failFn, k1, fun args A r h => by cases h⟩
 cases h1 : Nat.beq f 117 with
 | true =>
   obtain rfl : f = 117 := Nat.eq_of_beq_eq_true h1
   exact .inr (fl (by decide))
 | false =>
 cases h2 : Nat.beq f 49 with
 | true =>
   obtain rfl : f = 49 := Nat.eq_of_beq_eq_true h2
   exact .inr (fl (by decide))
 | false =>
 cases h3 : Nat.beq f 8 with
 | true =>
   obtain rfl : f = 8 := Nat.eq_of_beq_eq_true h3
   exact .inr (fl (by decide))
 | false =>
   have ke : extD f = C.ext f := by unfold extD; rw [h1, h2, h3]; rfl
   cases hc : C.ext f with
   | none => exact .inl ⟨rfl, by rw [ke, hc]⟩
   | some k => exact .inr ⟨k, rfl, fun args A r hr => ⟨k, by rw [ke, hc], hr⟩⟩
theorem firstD (p : Pr) (hp : p.Ok) (h : valS p = 0 → (opsEs (exprsS p)).length ≤ 1099511627776) (A : AHeap) : acl D 117 [Pr.av p] A = some (.tuple [.d (.int .i64 (fstP p).1), .d (.int .i64 (fstP p).2.1), .d (.bool (fstP p).2.2)], A) := by
 rw [acl_ext (c := D) (f := 117) (g := outFn fstF) rfl]
 have hr := argP_row hp h
 have hc : acleanVs A [Pr.av p] = ([Pr.av p], A) := by rfl
 unfold outFn
 rw [hc]
 simp only [fstF, hr, Option.map_some]
theorem runD {A : AHeap} {i a b : Nat} {x : Ids} {m : Mc} {l : List Stm} {S : Nat} (h : RunPre A i a b x m l S) : ∃ r, acl D 49 [.ptr i 0, .func (.func 50) [] [.ptr a 0, .ptr b 0]] A = some r ∧ RunPost A a b x r (exL l m) := by
 obtain ⟨r, h1, h2⟩ := run_post h
 exact ⟨r, by rw [acl_ext (c := D) (f := 49) (g := runFn) rfl, h1], h2⟩
end Go.Proofs.YtpbdjgdmhfibmaaGreatDoor
set_option linter.all false
namespace Go.Proofs.YtpbdjgdmhfibmaaGreatDoor
open Go.Abs
attribute [local congr] ite_congr
set_option maxRecDepth 100000
theorem plainVP (s : Bytes) (A : AHeap) (hl : s.length ≤ 1099511627776) : acl C 165 [.d (.str s)] A = some (.d (.bool (plainS s)), A) := by
 rw [k_call (c := C) (f := 165) rfl Tryz.func165 rfl (ok 165 (by kernel_rfl)) rfl Tryz.ntmps165 Tryz.results165 (by simp)]
 simp (maxSteps := 1000000) +contextual only [go_sem, acondK_bool]
 refine loop_list (fun n => [(0, .v (.d (.str s))), (3, .v (.d (.int .i64 (n : Int))))]) (fun pre suf => some (.d (.bool (suf.all inner && decide ((s.length : Int) ≤ 64))), A)) s rfl (by simp [plainS]) ?_
 intro pre suf h ih
 subst h
 have hb : pre.length < 9223372036854775807 := by simp at hl; omega
 cases suf with
 | nil => simp (maxSteps := 1000000) +contextual only [go_sem, acondK_bool]
 | cons x suf =>
   simp (maxSteps := 1000000) +contextual only [go_sem, acondK_bool, ih x suf rfl, wrap_nat hb]
   refine leafB ?_
   cases hx : inner x <;> simp [hx] <;> simp [inner] at hx <;> omega
def valV (v : Vl) : Bool := if decide (v.kind = 0) = true then (decide (v.n = 0) && (v.s == [])) else if decide (v.kind = 1) = true then v.s == [] else if decide (v.kind = 2) = true then (decide (v.n = 0) && plainS v.s) else false
theorem valVP (v : Vl) (A : AHeap) (hl : v.s.length ≤ 1099511627776) : acl C 120 [v.av] A = some (.d (.bool (valV v)), A) := by
 have p1 := plainVP v.s A hl
 unfold valV
 rw [k_call (c := C) (f := 120) rfl Tryz.func120 rfl (ok 120 (by kernel_rfl)) rfl Tryz.ntmps120 Tryz.results120 (by simp)]
 cases h0 : decide (v.kind = 0) with
 | true =>
   have k0 : v.kind = 0 := by simpa using h0
   cases h1 : decide (v.n = 0) <;> cases h2 : (v.s == []) <;> simp (maxSteps := 1000000) only [go_sem, acondK_bool, h0, h1, h2, k0, Vl.av, decide_true]
 | false =>
 cases h1 : decide (v.kind = 1) with
 | true => cases h2 : (v.s == []) <;> simp (maxSteps := 1000000) only [go_sem, acondK_bool, h0, h1, h2, Vl.av]
 | false =>
 cases h2 : decide (v.kind = 2) with
 | true =>
   cases h3 : decide (v.n = 0) with
   | false => simp (maxSteps := 1000000) only [go_sem, acondK_bool, h0, h1, h2, h3, Vl.av]
   | true => simp (maxSteps := 1000000) only [go_sem, acondK_bool, h0, h1, h2, h3, p1, Vl.av]
 | false => simp (maxSteps := 1000000) only [go_sem, acondK_bool, h0, h1, h2, Vl.av]
def srtS : Option Bytes → List Kv → Bool
 | _, [] => true
 | pv, p :: l => keyV p.key && (valV p.v && ((match pv with
   | none => true
   | some k => Op.bytesLess k p.key) && srtS (some p.key) l))
theorem geqS (t : TypeId) (a b : Bytes) : abin Tryz.prog .geq t (.d (.str a)) (.d (.str b)) = some (.d (.bool (!Op.bytesLess a b))) := by rfl
theorem sortedP (l : List Kv) (A : AHeap) (hl : l.length ≤ 1099511627776) (hk : ∀ p ∈ l, p.key.length ≤ 1099511627776 ∧ p.v.s.length ≤ 1099511627776) : acl C 83 [.d (.slice (l.map Kv.row))] A = some (.d (.bool (srtS none l)), A) := by
 rw [k_call (c := C) (f := 83) rfl Tryz.func83 rfl (ok 83 (by kernel_rfl)) rfl Tryz.ntmps83 Tryz.results83 (by simp)]
 simp (maxSteps := 1000000) only [go_sem, acondK_bool]
 refine loop_any (fun pre => [(6, .v (.d (.int .i64 (l.length : Nat)))), (5, .v (.d (.slice (l.map Kv.row)))), (0, .v (.d (.slice (l.map Kv.row)))), (7, .v (.d (.int .i64 (pre.length : Nat))))])
  (fun _ => A) (fun pre suf => some (.d (.bool (srtS (pre.getLast?.map Kv.key) suf)), A)) l rfl rfl rfl ?_
 intro pre suf h ih
 have hb : pre.length < 9223372036854775807 := by rw [h] at hl; simp at hl; omega
 cases suf with
 | nil =>
   have e4 : decide ((pre.length : Int) < (l.length : Int)) = false := by rw [h]; simp
   simp (maxSteps := 1000000) only [go_sem, acondK_bool, e4, srtS]
 | cons x suf =>
   have e2 := ih x suf rfl
   rw [List.length_append, List.length_cons, List.length_nil] at e2
   simp only [List.getLast?_append, List.getLast?_singleton, Option.some_or, Option.map_some] at e2
   have e3 : (l.map Kv.row)[pre.length]? = some [.str x.key, .int .i64 x.v.kind, .int .i64 x.v.n, .str x.v.s] := by rw [h]; exact map_mid
   have e4 : decide ((pre.length : Int) < (l.length : Int)) = true := by rw [h]; simp; omega
   have hx := hk x (by rw [h]; simp)
   have k1 := keyVP x.key A hx.1
   have v1 := valVP x.v A hx.2
   simp only [Vl.av] at v1
   simp only [srtS]
   cases h1 : keyV x.key with
   | false =>
     rw [h1] at k1
     simp (maxSteps := 1000000) only [go_sem, acondK_bool, e3, e4, k1, k_drawn_q]
   | true =>
   rw [h1] at k1
   cases h2 : valV x.v with
   | false =>
     rw [h2] at v1
     simp (maxSteps := 1000000) only [go_sem, acondK_bool, e3, e4, k1, v1, k_drawn_q]
   | true =>
   rw [h2] at v1
   rcases List.eq_nil_or_concat pre with rfl | ⟨pre', q, rfl⟩
   ·rw [show ((([] : List Kv).length + (0 + 1) : Nat) : Int) = 1 from rfl] at e2
    have w1 : IntKind.i64.wrap 1 = 1 := by decide
    have e4 : decide ((0 : Int) < (l.length : Nat)) = true := e4
    simp only [List.length_nil, Nat.zero_add, List.getLast?_nil, Option.map_none] at e2 e3 e4 ⊢
    simp (maxSteps := 1000000) only [go_sem, acondK_bool, e2, e3, e4, k1, v1, k_drawn_q, w1]
   ·have e6 : (l.map Kv.row)[pre'.length]? = some [.str q.key, .int .i64 q.v.kind, .int .i64 q.v.n, .str q.v.s] := by rw [h, List.concat_eq_append, List.append_assoc]; exact map_mid
    have e7 : IntKind.i64.wrap (((pre'.concat q).length : Int) - 1) = (pre'.length : Nat) := by
     have e0 : ((pre'.concat q).length : Int) - 1 = (pre'.length : Nat) := by simp
     rw [List.length_concat] at hb
     rw [e0]
     exact wrap_in (by omega) (by omega)
    have e8 : decide ((0 : Int) < ((pre'.concat q).length : Nat)) = true := by rw [List.length_concat]; exact decide_eq_true (by omega)
    have e9 : ((pre'.concat q).getLast?.map Kv.key) = some q.key := by simp
    rw [e9]
    simp only
    cases h3 : Op.bytesLess q.key x.key with
    | true => simp (maxSteps := 1000000) only [go_sem, acondK_bool, e2, e3, e4, e6, e7, e8, k1, v1, h3, geqS, k_drawn_q, wrap_nat hb]
    | false => simp (maxSteps := 1000000) only [go_sem, acondK_bool, e3, e4, e6, e7, e8, k1, v1, h3, geqS, k_drawn_q]
theorem absentP (p : Kv) (A : AHeap) : acl C 85 [.agg [.d (.str p.key), .d (.int .i64 p.v.kind), .d (.int .i64 p.v.n), .d (.str p.v.s)]] A = some (.d (.bool (decide (p.v.kind = 0))), A) := by
 rw [k_call (c := C) (f := 85) rfl Tryz.func85 rfl (ok 85 (by kernel_rfl)) rfl Tryz.ntmps85 Tryz.results85 (by simp)]
 simp (maxSteps := 1000000) only [go_sem, acondK_bool]
def absF : List Kv → Nat → Int
 | [], _ => -1
 | p :: l, i => if decide (p.v.kind = 0) = true then (i : Nat) else absF l (i + 1)
theorem absF_neg : ∀ (l : List Kv) (i : Nat), decide (0 ≤ absF l i) = l.any fun p => decide (p.v.kind = 0)
 | [], _ => rfl
 | p :: l, i => by
   unfold absF
   cases h : decide (p.v.kind = 0) with
   | true => simp [h]
   | false => simp only [List.any_cons, h, Bool.false_or, Bool.false_eq_true, if_false]; exact absF_neg l (i + 1)
theorem indexFP (l : List Kv) (A : AHeap) (hl : l.length ≤ 1099511627776) : acl C 121 [.d (.slice (l.map Kv.row)), .func (.func 85) [] []] A = some (.d (.int .i64 (absF l 0)), A) := by
 rw [k_call (c := C) (f := 121) rfl Tryz.func121 rfl (ok 121 (by kernel_rfl)) rfl Tryz.ntmps121 Tryz.results121 (by simp)]
 simp (maxSteps := 1000000) only [go_sem, acondK_bool]
 refine loop_any (fun pre => [(7, .v (.d (.int .i64 (l.length : Nat)))), (1, .v (.func (.func 85) [] [])), (0, .v (.d (.slice (l.map Kv.row)))), (8, .v (.d (.int .i64 (pre.length : Nat))))])
  (fun _ => A) (fun pre suf => some (.d (.int .i64 (absF suf pre.length)), A)) l rfl rfl rfl ?_
 intro pre suf h ih
 have hb : pre.length < 9223372036854775807 := by rw [h] at hl; simp at hl; omega
 cases suf with
 | nil =>
   have e4 : decide ((pre.length : Int) < (l.length : Int)) = false := by rw [h]; simp
   simp (maxSteps := 1000000) only [go_sem, acondK_bool, e4, absF]
 | cons x suf =>
   have e2 := ih x suf rfl
   rw [List.length_append, List.length_cons, List.length_nil] at e2
   have e3 : (l.map Kv.row)[pre.length]? = some [.str x.key, .int .i64 x.v.kind, .int .i64 x.v.n, .str x.v.s] := by rw [h]; exact map_mid
   have e4 : decide ((pre.length : Int) < (l.length : Int)) = true := by rw [h]; simp; omega
   have a1 := absentP x A
   simp only [absF]
   cases h1 : decide (x.v.kind = 0) with
   | true =>
     rw [h1] at a1
     simp (maxSteps := 1000000) only [go_sem, acondK_bool, e3, e4, a1]
   | false =>
     rw [h1] at a1
     simp (maxSteps := 1000000) only [go_sem, acondK_bool, e2, e3, e4, a1, wrap_nat hb]
theorem containsFP (l : List Kv) (A : AHeap) (hl : l.length ≤ 1099511627776) : acl C 84 [.d (.slice (l.map Kv.row)), .func (.func 85) [] []] A = some (.d (.bool (l.any fun p => decide (p.v.kind = 0))), A) := by
 have i := indexFP l A hl
 rw [← absF_neg l 0]
 rw [k_call (c := C) (f := 84) rfl Tryz.func84 rfl (ok 84 (by kernel_rfl)) rfl Tryz.ntmps84 Tryz.results84 (by simp)]
 simp (maxSteps := 1000000) only [go_sem, acondK_bool, i]
def stV (l : List Kv) : Bool := srtS none l && !(l.any fun p => decide (p.v.kind = 0))
theorem stVP (l : List Kv) (A : AHeap) (hl : l.length ≤ 1099511627776) (hk : ∀ p ∈ l, p.key.length ≤ 1099511627776 ∧ p.v.s.length ≤ 1099511627776) : acl C 44 [.d (.slice (l.map Kv.row))] A = some (.d (.bool (stV l)), A) := by
 have s := sortedP l A hl hk
 have c := containsFP l A hl
 unfold stV
 rw [k_call (c := C) (f := 44) rfl Tryz.func44 rfl (ok 44 (by kernel_rfl)) rfl Tryz.ntmps44 Tryz.results44 (by simp)]
 cases h : srtS none l with
 | true =>
   rw [h] at s
   simp (maxSteps := 1000000) only [go_sem, acondK_bool, s, c]
 | false =>
   rw [h] at s
   simp (maxSteps := 1000000) only [go_sem, acondK_bool, s]
theorem footP (A : AHeap) : acl C 45 [.agg [.d (.bool true), .d (.slice []), .d (.slice [])]] A = some (.d (.bool true), A) := by
 rw [k_call (c := C) (f := 45) rfl Tryz.func45 rfl (ok 45 (by kernel_rfl)) rfl Tryz.ntmps45 Tryz.results45 (by simp)]
 simp (maxSteps := 1000000) only [go_sem, acondK_bool]
theorem wrongP (A : AHeap) : acl C 46 [] A = some (.agg [.d (.int .i64 2), .d (.int .i64 1009), .d (.slice []), .d (.slice []), .d (.slice []), .d (.slice []), .d (.str []), .d (.int .i64 0)], A) := by
 rw [k_call (c := C) (f := 46) rfl Tryz.func46 rfl (ok 46 (by kernel_rfl)) rfl Tryz.ntmps46 Tryz.results46 (by simp)]
 simp (maxSteps := 1000000) only [go_sem, acondK_bool]
end Go.Proofs.YtpbdjgdmhfibmaaGreatDoor
