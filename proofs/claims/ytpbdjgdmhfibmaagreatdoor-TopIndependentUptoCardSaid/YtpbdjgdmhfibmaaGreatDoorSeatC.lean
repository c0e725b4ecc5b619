/- Operators on two values: all of them. -/
import Derived.Test.YtpbdjgdmhfibmaaGreatDoorSeatB
import Derived.Test.YtpbdjgdmhfibmaaGreatDoorGenC
import Derived.Test.YtpbdjgdmhfibmaaGreatDoorSeatA
set_option linter.all false
namespace Go.Proofs.YtpbdjgdmhfibmaaGreatDoor
open Go.Abs
attribute [local congr] ite_congr
set_option maxRecDepth 100000
def binSV (op : Int) (a b : Vl) : Oc :=
 if decide (op = 4) || decide (op = 5) || decide (op = 6) || decide (op = 7) || decide (op = 8) then (if decide (a.kind = 1) && decide (b.kind = 1) then arithS op a.n b.n else .stop (abt 1009))
 else if decide (op = 16) then (if decide (a.kind = 3) && decide (b.kind = 3) then .ok (truthV (decide (a.n = 1) && decide (b.n = 1))) else .stop (abt 1009))
 else if decide (op = 17) then (if decide (a.kind = 3) && decide (b.kind = 3) then .ok (truthV (decide (a.n = 1) || decide (b.n = 1))) else .stop (abt 1009))
 else if decide (op = 19) then (if decide (a.kind = 2) && decide (b.kind = 2) then textS (a.s ++ b.s) else .stop (abt 1009))
 else compareS op a b
theorem bin4P (a b : Vl) (A : AHeap) : Ans 168 [.d (.int .i64 4), a.av, b.av] A (if decide (a.kind = 1) && decide (b.kind = 1) then arithS 4 a.n b.n else .stop (abt 1009)) := by
 have m1 := mustT A
 have m2 := mustN A
 have t (x : Bool) := truthP x A
 cases k1 : decide (a.kind = 1) with
 | false =>
   simp only [k1, Bool.and_true, Bool.true_and, Bool.or_true, Bool.true_or, Bool.or_false, Bool.false_or, Bool.false_and, Bool.and_false, Bool.and_self, Bool.or_self, Bool.false_eq_true, if_true, if_false]
   intro R hR
   refine pC Tryz.func168 rfl Tryz.ntmps168 Tryz.results168 ?_
   simp only [go_sem, acondK_bool, k1, m2, Vl.av]
   exact mustF _ ((post_same (f := 168) rfl).2 hR)
 | true =>
 cases k2 : decide (b.kind = 1) with
 | false =>
   simp only [k1, k2, Bool.and_true, Bool.true_and, Bool.or_true, Bool.true_or, Bool.or_false, Bool.false_or, Bool.false_and, Bool.and_false, Bool.and_self, Bool.or_self, Bool.false_eq_true, if_true, if_false]
   intro R hR
   refine pC Tryz.func168 rfl Tryz.ntmps168 Tryz.results168 ?_
   simp only [go_sem, acondK_bool, k1, k2, m2, Vl.av]
   exact mustF _ ((post_same (f := 168) rfl).2 hR)
 | true =>
   simp only [k1, k2, Bool.and_true, Bool.true_and, Bool.or_true, Bool.true_or, Bool.or_false, Bool.false_or, Bool.false_and, Bool.and_false, Bool.and_self, Bool.or_self, Bool.false_eq_true, if_true, if_false]
   have e := arithP 4 a.n b.n A
   cases ho : arithS 4 a.n b.n with
   | ok v =>
     rw [ho] at e; have e := ans_ok e; change acl _ _ _ _ = _
     rw [kC Tryz.func168 rfl Tryz.ntmps168 Tryz.results168]
     simp only [go_sem, acondK_bool, k1, k2, m1, e, Vl.av]
   | stop s =>
     rw [ho] at e; intro R hR
     refine pC Tryz.func168 rfl Tryz.ntmps168 Tryz.results168 ?_
     simp only [go_sem, acondK_bool, k1, k2, m1, ans_no e, Vl.av]
     exact e _ ((post_same (f := 168) rfl).2 hR)
theorem bin5P (a b : Vl) (A : AHeap) : Ans 168 [.d (.int .i64 5), a.av, b.av] A (if decide (a.kind = 1) && decide (b.kind = 1) then arithS 5 a.n b.n else .stop (abt 1009)) := by
 have m1 := mustT A
 have m2 := mustN A
 have t (x : Bool) := truthP x A
 cases k1 : decide (a.kind = 1) with
 | false =>
   simp only [k1, Bool.and_true, Bool.true_and, Bool.or_true, Bool.true_or, Bool.or_false, Bool.false_or, Bool.false_and, Bool.and_false, Bool.and_self, Bool.or_self, Bool.false_eq_true, if_true, if_false]
   intro R hR
   refine pC Tryz.func168 rfl Tryz.ntmps168 Tryz.results168 ?_
   simp only [go_sem, acondK_bool, k1, m2, Vl.av]
   exact mustF _ ((post_same (f := 168) rfl).2 hR)
 | true =>
 cases k2 : decide (b.kind = 1) with
 | false =>
   simp only [k1, k2, Bool.and_true, Bool.true_and, Bool.or_true, Bool.true_or, Bool.or_false, Bool.false_or, Bool.false_and, Bool.and_false, Bool.and_self, Bool.or_self, Bool.false_eq_true, if_true, if_false]
   intro R hR
   refine pC Tryz.func168 rfl Tryz.ntmps168 Tryz.results168 ?_
   simp only [go_sem, acondK_bool, k1, k2, m2, Vl.av]
   exact mustF _ ((post_same (f := 168) rfl).2 hR)
 | true =>
   simp only [k1, k2, Bool.and_true, Bool.true_and, Bool.or_true, Bool.true_or, Bool.or_false, Bool.false_or, Bool.false_and, Bool.and_false, Bool.and_self, Bool.or_self, Bool.false_eq_true, if_true, if_false]
   have e := arithP 5 a.n b.n A
   cases ho : arithS 5 a.n b.n with
   | ok v =>
     rw [ho] at e; have e := ans_ok e; change acl _ _ _ _ = _
     rw [kC Tryz.func168 rfl Tryz.ntmps168 Tryz.results168]
     simp only [go_sem, acondK_bool, k1, k2, m1, e, Vl.av]
   | stop s =>
     rw [ho] at e; intro R hR
     refine pC Tryz.func168 rfl Tryz.ntmps168 Tryz.results168 ?_
     simp only [go_sem, acondK_bool, k1, k2, m1, ans_no e, Vl.av]
     exact e _ ((post_same (f := 168) rfl).2 hR)
theorem bin6P (a b : Vl) (A : AHeap) : Ans 168 [.d (.int .i64 6), a.av, b.av] A (if decide (a.kind = 1) && decide (b.kind = 1) then arithS 6 a.n b.n else .stop (abt 1009)) := by
 have m1 := mustT A
 have m2 := mustN A
 have t (x : Bool) := truthP x A
 cases k1 : decide (a.kind = 1) with
 | false =>
   simp only [k1, Bool.and_true, Bool.true_and, Bool.or_true, Bool.true_or, Bool.or_false, Bool.false_or, Bool.false_and, Bool.and_false, Bool.and_self, Bool.or_self, Bool.false_eq_true, if_true, if_false]
   intro R hR
   refine pC Tryz.func168 rfl Tryz.ntmps168 Tryz.results168 ?_
   simp only [go_sem, acondK_bool, k1, m2, Vl.av]
   exact mustF _ ((post_same (f := 168) rfl).2 hR)
 | true =>
 cases k2 : decide (b.kind = 1) with
 | false =>
   simp only [k1, k2, Bool.and_true, Bool.true_and, Bool.or_true, Bool.true_or, Bool.or_false, Bool.false_or, Bool.false_and, Bool.and_false, Bool.and_self, Bool.or_self, Bool.false_eq_true, if_true, if_false]
   intro R hR
   refine pC Tryz.func168 rfl Tryz.ntmps168 Tryz.results168 ?_
   simp only [go_sem, acondK_bool, k1, k2, m2, Vl.av]
   exact mustF _ ((post_same (f := 168) rfl).2 hR)
 | true =>
   simp only [k1, k2, Bool.and_true, Bool.true_and, Bool.or_true, Bool.true_or, Bool.or_false, Bool.false_or, Bool.false_and, Bool.and_false, Bool.and_self, Bool.or_self, Bool.false_eq_true, if_true, if_false]
   have e := arithP 6 a.n b.n A
   cases ho : arithS 6 a.n b.n with
   | ok v =>
     rw [ho] at e; have e := ans_ok e; change acl _ _ _ _ = _
     rw [kC Tryz.func168 rfl Tryz.ntmps168 Tryz.results168]
     simp only [go_sem, acondK_bool, k1, k2, m1, e, Vl.av]
   | stop s =>
     rw [ho] at e; intro R hR
     refine pC Tryz.func168 rfl Tryz.ntmps168 Tryz.results168 ?_
     simp only [go_sem, acondK_bool, k1, k2, m1, ans_no e, Vl.av]
     exact e _ ((post_same (f := 168) rfl).2 hR)
theorem bin7P (a b : Vl) (A : AHeap) : Ans 168 [.d (.int .i64 7), a.av, b.av] A (if decide (a.kind = 1) && decide (b.kind = 1) then arithS 7 a.n b.n else .stop (abt 1009)) := by
 have m1 := mustT A
 have m2 := mustN A
 have t (x : Bool) := truthP x A
 cases k1 : decide (a.kind = 1) with
 | false =>
   simp only [k1, Bool.and_true, Bool.true_and, Bool.or_true, Bool.true_or, Bool.or_false, Bool.false_or, Bool.false_and, Bool.and_false, Bool.and_self, Bool.or_self, Bool.false_eq_true, if_true, if_false]
   intro R hR
   refine pC Tryz.func168 rfl Tryz.ntmps168 Tryz.results168 ?_
   simp only [go_sem, acondK_bool, k1, m2, Vl.av]
   exact mustF _ ((post_same (f := 168) rfl).2 hR)
 | true =>
 cases k2 : decide (b.kind = 1) with
 | false =>
   simp only [k1, k2, Bool.and_true, Bool.true_and, Bool.or_true, Bool.true_or, Bool.or_false, Bool.false_or, Bool.false_and, Bool.and_false, Bool.and_self, Bool.or_self, Bool.false_eq_true, if_true, if_false]
   intro R hR
   refine pC Tryz.func168 rfl Tryz.ntmps168 Tryz.results168 ?_
   simp only [go_sem, acondK_bool, k1, k2, m2, Vl.av]
   exact mustF _ ((post_same (f := 168) rfl).2 hR)
 | true =>
   simp only [k1, k2, Bool.and_true, Bool.true_and, Bool.or_true, Bool.true_or, Bool.or_false, Bool.false_or, Bool.false_and, Bool.and_false, Bool.and_self, Bool.or_self, Bool.false_eq_true, if_true, if_false]
   have e := arithP 7 a.n b.n A
   cases ho : arithS 7 a.n b.n with
   | ok v =>
     rw [ho] at e; have e := ans_ok e; change acl _ _ _ _ = _
     rw [kC Tryz.func168 rfl Tryz.ntmps168 Tryz.results168]
     simp only [go_sem, acondK_bool, k1, k2, m1, e, Vl.av]
   | stop s =>
     rw [ho] at e; intro R hR
     refine pC Tryz.func168 rfl Tryz.ntmps168 Tryz.results168 ?_
     simp only [go_sem, acondK_bool, k1, k2, m1, ans_no e, Vl.av]
     exact e _ ((post_same (f := 168) rfl).2 hR)
theorem bin8P (a b : Vl) (A : AHeap) : Ans 168 [.d (.int .i64 8), a.av, b.av] A (if decide (a.kind = 1) && decide (b.kind = 1) then arithS 8 a.n b.n else .stop (abt 1009)) := by
 have m1 := mustT A
 have m2 := mustN A
 have t (x : Bool) := truthP x A
 cases k1 : decide (a.kind = 1) with
 | false =>
   simp only [k1, Bool.and_true, Bool.true_and, Bool.or_true, Bool.true_or, Bool.or_false, Bool.false_or, Bool.false_and, Bool.and_false, Bool.and_self, Bool.or_self, Bool.false_eq_true, if_true, if_false]
   intro R hR
   refine pC Tryz.func168 rfl Tryz.ntmps168 Tryz.results168 ?_
   simp only [go_sem, acondK_bool, k1, m2, Vl.av]
   exact mustF _ ((post_same (f := 168) rfl).2 hR)
 | true =>
 cases k2 : decide (b.kind = 1) with
 | false =>
   simp only [k1, k2, Bool.and_true, Bool.true_and, Bool.or_true, Bool.true_or, Bool.or_false, Bool.false_or, Bool.false_and, Bool.and_false, Bool.and_self, Bool.or_self, Bool.false_eq_true, if_true, if_false]
   intro R hR
   refine pC Tryz.func168 rfl Tryz.ntmps168 Tryz.results168 ?_
   simp only [go_sem, acondK_bool, k1, k2, m2, Vl.av]
   exact mustF _ ((post_same (f := 168) rfl).2 hR)
 | true =>
   simp only [k1, k2, Bool.and_true, Bool.true_and, Bool.or_true, Bool.true_or, Bool.or_false, Bool.false_or, Bool.false_and, Bool.and_false, Bool.and_self, Bool.or_self, Bool.false_eq_true, if_true, if_false]
   have e := arithP 8 a.n b.n A
   cases ho : arithS 8 a.n b.n with
   | ok v =>
     rw [ho] at e; have e := ans_ok e; change acl _ _ _ _ = _
     rw [kC Tryz.func168 rfl Tryz.ntmps168 Tryz.results168]
     simp only [go_sem, acondK_bool, k1, k2, m1, e, Vl.av]
   | stop s =>
     rw [ho] at e; intro R hR
     refine pC Tryz.func168 rfl Tryz.ntmps168 Tryz.results168 ?_
     simp only [go_sem, acondK_bool, k1, k2, m1, ans_no e, Vl.av]
     exact e _ ((post_same (f := 168) rfl).2 hR)
theorem bin16P (a b : Vl) (A : AHeap) : Ans 168 [.d (.int .i64 16), a.av, b.av] A (if decide (a.kind = 3) && decide (b.kind = 3) then .ok (truthV (decide (a.n = 1) && decide (b.n = 1))) else .stop (abt 1009)) := by
 have m1 := mustT A
 have m2 := mustN A
 have t (x : Bool) := truthP x A
 cases k1 : decide (a.kind = 3) with
 | false =>
   simp only [k1, Bool.and_true, Bool.true_and, Bool.or_true, Bool.true_or, Bool.or_false, Bool.false_or, Bool.false_and, Bool.and_false, Bool.and_self, Bool.or_self, Bool.false_eq_true, if_true, if_false]
   intro R hR
   refine pC Tryz.func168 rfl Tryz.ntmps168 Tryz.results168 ?_
   simp only [go_sem, acondK_bool, k1, m2, Vl.av]
   exact mustF _ ((post_same (f := 168) rfl).2 hR)
 | true =>
 cases k2 : decide (b.kind = 3) with
 | false =>
   simp only [k1, k2, Bool.and_true, Bool.true_and, Bool.or_true, Bool.true_or, Bool.or_false, Bool.false_or, Bool.false_and, Bool.and_false, Bool.and_self, Bool.or_self, Bool.false_eq_true, if_true, if_false]
   intro R hR
   refine pC Tryz.func168 rfl Tryz.ntmps168 Tryz.results168 ?_
   simp only [go_sem, acondK_bool, k1, k2, m2, Vl.av]
   exact mustF _ ((post_same (f := 168) rfl).2 hR)
 | true =>
   cases k3 : decide (a.n = 1) with
   | true =>
     cases k4 : decide (b.n = 1) with
     | true =>
       simp only [k1, k2, k3, k4, Bool.and_true, Bool.true_and, Bool.or_true, Bool.true_or, Bool.or_false, Bool.false_or, Bool.false_and, Bool.and_false, Bool.and_self, Bool.or_self, Bool.false_eq_true, if_true, if_false]
       change acl _ _ _ _ = _
       rw [kC Tryz.func168 rfl Tryz.ntmps168 Tryz.results168]
       simp only [go_sem, acondK_bool, k1, k2, k3, k4, m1, t, Vl.av]
     | false =>
       simp only [k1, k2, k3, k4, Bool.and_true, Bool.true_and, Bool.or_true, Bool.true_or, Bool.or_false, Bool.false_or, Bool.false_and, Bool.and_false, Bool.and_self, Bool.or_self, Bool.false_eq_true, if_true, if_false]
       change acl _ _ _ _ = _
       rw [kC Tryz.func168 rfl Tryz.ntmps168 Tryz.results168]
       simp only [go_sem, acondK_bool, k1, k2, k3, k4, m1, t, Vl.av]
   | false =>
     cases k4 : decide (b.n = 1) with
     | true =>
       simp only [k1, k2, k3, k4, Bool.and_true, Bool.true_and, Bool.or_true, Bool.true_or, Bool.or_false, Bool.false_or, Bool.false_and, Bool.and_false, Bool.and_self, Bool.or_self, Bool.false_eq_true, if_true, if_false]
       change acl _ _ _ _ = _
       rw [kC Tryz.func168 rfl Tryz.ntmps168 Tryz.results168]
       simp only [go_sem, acondK_bool, k1, k2, k3, k4, m1, t, Vl.av]
     | false =>
       simp only [k1, k2, k3, k4, Bool.and_true, Bool.true_and, Bool.or_true, Bool.true_or, Bool.or_false, Bool.false_or, Bool.false_and, Bool.and_false, Bool.and_self, Bool.or_self, Bool.false_eq_true, if_true, if_false]
       change acl _ _ _ _ = _
       rw [kC Tryz.func168 rfl Tryz.ntmps168 Tryz.results168]
       simp only [go_sem, acondK_bool, k1, k2, k3, k4, m1, t, Vl.av]
theorem bin17P (a b : Vl) (A : AHeap) : Ans 168 [.d (.int .i64 17), a.av, b.av] A (if decide (a.kind = 3) && decide (b.kind = 3) then .ok (truthV (decide (a.n = 1) || decide (b.n = 1))) else .stop (abt 1009)) := by
 have m1 := mustT A
 have m2 := mustN A
 have t (x : Bool) := truthP x A
 cases k1 : decide (a.kind = 3) with
 | false =>
   simp only [k1, Bool.and_true, Bool.true_and, Bool.or_true, Bool.true_or, Bool.or_false, Bool.false_or, Bool.false_and, Bool.and_false, Bool.and_self, Bool.or_self, Bool.false_eq_true, if_true, if_false]
   intro R hR
   refine pC Tryz.func168 rfl Tryz.ntmps168 Tryz.results168 ?_
   simp only [go_sem, acondK_bool, k1, m2, Vl.av]
   exact mustF _ ((post_same (f := 168) rfl).2 hR)
 | true =>
 cases k2 : decide (b.kind = 3) with
 | false =>
   simp only [k1, k2, Bool.and_true, Bool.true_and, Bool.or_true, Bool.true_or, Bool.or_false, Bool.false_or, Bool.false_and, Bool.and_false, Bool.and_self, Bool.or_self, Bool.false_eq_true, if_true, if_false]
   intro R hR
   refine pC Tryz.func168 rfl Tryz.ntmps168 Tryz.results168 ?_
   simp only [go_sem, acondK_bool, k1, k2, m2, Vl.av]
   exact mustF _ ((post_same (f := 168) rfl).2 hR)
 | true =>
   cases k3 : decide (a.n = 1) with
   | true =>
     cases k4 : decide (b.n = 1) with
     | true =>
       simp only [k1, k2, k3, k4, Bool.and_true, Bool.true_and, Bool.or_true, Bool.true_or, Bool.or_false, Bool.false_or, Bool.false_and, Bool.and_false, Bool.and_self, Bool.or_self, Bool.false_eq_true, if_true, if_false]
       change acl _ _ _ _ = _
       rw [kC Tryz.func168 rfl Tryz.ntmps168 Tryz.results168]
       simp only [go_sem, acondK_bool, k1, k2, k3, k4, m1, t, Vl.av]
     | false =>
       simp only [k1, k2, k3, k4, Bool.and_true, Bool.true_and, Bool.or_true, Bool.true_or, Bool.or_false, Bool.false_or, Bool.false_and, Bool.and_false, Bool.and_self, Bool.or_self, Bool.false_eq_true, if_true, if_false]
       change acl _ _ _ _ = _
       rw [kC Tryz.func168 rfl Tryz.ntmps168 Tryz.results168]
       simp only [go_sem, acondK_bool, k1, k2, k3, k4, m1, t, Vl.av]
   | false =>
     cases k4 : decide (b.n = 1) with
     | true =>
       simp only [k1, k2, k3, k4, Bool.and_true, Bool.true_and, Bool.or_true, Bool.true_or, Bool.or_false, Bool.false_or, Bool.false_and, Bool.and_false, Bool.and_self, Bool.or_self, Bool.false_eq_true, if_true, if_false]
       change acl _ _ _ _ = _
       rw [kC Tryz.func168 rfl Tryz.ntmps168 Tryz.results168]
       simp only [go_sem, acondK_bool, k1, k2, k3, k4, m1, t, Vl.av]
     | false =>
       simp only [k1, k2, k3, k4, Bool.and_true, Bool.true_and, Bool.or_true, Bool.true_or, Bool.or_false, Bool.false_or, Bool.false_and, Bool.and_false, Bool.and_self, Bool.or_self, Bool.false_eq_true, if_true, if_false]
       change acl _ _ _ _ = _
       rw [kC Tryz.func168 rfl Tryz.ntmps168 Tryz.results168]
       simp only [go_sem, acondK_bool, k1, k2, k3, k4, m1, t, Vl.av]
theorem bin19P (a b : Vl) (A : AHeap) (hl : a.s.length + b.s.length ≤ 1099511627776) : Ans 168 [.d (.int .i64 19), a.av, b.av] A (if decide (a.kind = 2) && decide (b.kind = 2) then textS (a.s ++ b.s) else .stop (abt 1009)) := by
 have m1 := mustT A
 have m2 := mustN A
 have t (x : Bool) := truthP x A
 cases k1 : decide (a.kind = 2) with
 | false =>
   simp only [k1, Bool.and_true, Bool.true_and, Bool.or_true, Bool.true_or, Bool.or_false, Bool.false_or, Bool.false_and, Bool.and_false, Bool.and_self, Bool.or_self, Bool.false_eq_true, if_true, if_false]
   intro R hR
   refine pC Tryz.func168 rfl Tryz.ntmps168 Tryz.results168 ?_
   simp only [go_sem, acondK_bool, k1, m2, Vl.av]
   exact mustF _ ((post_same (f := 168) rfl).2 hR)
 | true =>
 cases k2 : decide (b.kind = 2) with
 | false =>
   simp only [k1, k2, Bool.and_true, Bool.true_and, Bool.or_true, Bool.true_or, Bool.or_false, Bool.false_or, Bool.false_and, Bool.and_false, Bool.and_self, Bool.or_self, Bool.false_eq_true, if_true, if_false]
   intro R hR
   refine pC Tryz.func168 rfl Tryz.ntmps168 Tryz.results168 ?_
   simp only [go_sem, acondK_bool, k1, k2, m2, Vl.av]
   exact mustF _ ((post_same (f := 168) rfl).2 hR)
 | true =>
   simp only [k1, k2, Bool.and_true, Bool.true_and, Bool.or_true, Bool.true_or, Bool.or_false, Bool.false_or, Bool.false_and, Bool.and_false, Bool.and_self, Bool.or_self, Bool.false_eq_true, if_true, if_false]
   have e := textP (a.s ++ b.s) A
   cases ho : textS (a.s ++ b.s) with
   | ok v =>
     rw [ho] at e; have e := ans_ok e; change acl _ _ _ _ = _
     rw [kC Tryz.func168 rfl Tryz.ntmps168 Tryz.results168]
     simp only [go_sem, acondK_bool, k1, k2, m1, e, Vl.av, hl]
   | stop s =>
     rw [ho] at e; intro R hR
     refine pC Tryz.func168 rfl Tryz.ntmps168 Tryz.results168 ?_
     simp only [go_sem, acondK_bool, k1, k2, m1, ans_no e, Vl.av, hl]
     exact e _ ((post_same (f := 168) rfl).2 hR)
theorem binP (op : Int) (a b : Vl) (A : AHeap) (hl : a.s.length + b.s.length ≤ 1099511627776) : Ans 168 [.d (.int .i64 op), a.av, b.av] A (binSV op a b) := by
 have m1 := mustT A
 have m2 := mustN A
 have t (x : Bool) := truthP x A
 cases h4 : decide (op = 4) with
 | true =>
   obtain rfl := of_decide_eq_true h4
   exact bin4P a b A
 | false =>
 cases h5 : decide (op = 5) with
 | true =>
   obtain rfl := of_decide_eq_true h5
   exact bin5P a b A
 | false =>
 cases h6 : decide (op = 6) with
 | true =>
   obtain rfl := of_decide_eq_true h6
   exact bin6P a b A
 | false =>
 cases h7 : decide (op = 7) with
 | true =>
   obtain rfl := of_decide_eq_true h7
   exact bin7P a b A
 | false =>
 cases h8 : decide (op = 8) with
 | true =>
   obtain rfl := of_decide_eq_true h8
   exact bin8P a b A
 | false =>
 cases h16 : decide (op = 16) with
 | true =>
   obtain rfl := of_decide_eq_true h16
   exact bin16P a b A
 | false =>
 cases h17 : decide (op = 17) with
 | true =>
   obtain rfl := of_decide_eq_true h17
   exact bin17P a b A
 | false =>
 cases h19 : decide (op = 19) with
 | true =>
   obtain rfl := of_decide_eq_true h19
   exact bin19P a b A hl
 | false =>
 unfold binSV
 simp only [h4, h5, h6, h7, h8, h16, h17, h19, Bool.and_true, Bool.true_and, Bool.or_true, Bool.true_or, Bool.or_false, Bool.false_or, Bool.false_and, Bool.and_false, Bool.and_self, Bool.or_self, Bool.false_eq_true, if_true, if_false]
 have e := compareP op a b A
 simp only [Vl.av] at e
 cases ho : compareS op a b with
 | ok v =>
   rw [ho] at e; have e := ans_ok e; change acl _ _ _ _ = _
   rw [kC Tryz.func168 rfl Tryz.ntmps168 Tryz.results168]
   simp only [go_sem, acondK_bool, h4, h5, h6, h7, h8, h16, h17, h19, m1, e, Vl.av]
 | stop s =>
   rw [ho] at e; intro R hR
   refine pC Tryz.func168 rfl Tryz.ntmps168 Tryz.results168 ?_
   simp only [go_sem, acondK_bool, h4, h5, h6, h7, h8, h16, h17, h19, m1, ans_no e, Vl.av]
   exact e _ ((post_same (f := 168) rfl).2 hR)
theorem nanSP (a : Bytes) (A : AHeap) : acl C 130 [.d (.str a)] A = some (.d (.bool false), A) := by
 rw [kC Tryz.func130 rfl Tryz.ntmps130 Tryz.results130]
 simp only [go_sem, acondK_bool, beq_self_eq_true, Bool.not_true]
theorem nanTP (a : Bytes) (A : AHeap) : acl C 92 [.d (.str a)] A = some (.d (.bool false), A) := by
 rw [kC Tryz.func92 rfl Tryz.ntmps92 Tryz.results92]
 simp only [go_sem, acondK_bool, beq_self_eq_true, Bool.not_true]
theorem lessP (a b : Bytes) (A : AHeap) : acl C 91 [.d (.str a), .d (.str b)] A = some (.d (.bool (Op.bytesLess a b)), A) := by
 have n1 := nanSP a A
 have n2 := nanSP b A
 rw [kC Tryz.func91 rfl Tryz.ntmps91 Tryz.results91]
 simp only [go_sem, acondK_bool, n1, n2]
theorem own_idx {A : AHeap} {tok i : Nat} {l : List Bytes} (hb : A.bufs[tok]? = some ⟨9, 1, srow l, 0⟩) (hi : i < l.length) : aindex 1 A (i : Nat) (.own tok l.length) = some (.eptr tok l.length i 0) := by
 have h1 : (srow l).length = l.length := by simp [srow]
 simp only [aindex, hb, h1, Int.toNat_natCast]
 simp [hi]
theorem u64_in {n : Int} (h0 : 0 ≤ n) (h1 : n ≤ 9223372036854775807) : IntKind.u64.wrap n = n := by
 rw [IntKind.wrap_u64]; omega
theorem shr1 {n : Int} {t : TypeId} : abin Tryz.prog .shr t (.d (.int .u64 n)) (.d (.int .u64 1)) = some (.d (.int .u64 (n / 2))) := b_ishr (by decide)
theorem own_ld {A : AHeap} {tok i : Nat} {l : List Bytes} (hb : A.bufs[tok]? = some ⟨9, 1, srow l, 0⟩) (hi : i < l.length) : aload A 1 false (.eptr tok l.length i 0) = some (.d (.str (l.getD i []))) := by
 have h1 : (srow l).length = l.length := by simp [srow]
 have h2 : (srow l)[i]? = some [.str (l.getD i [])] := by simp [srow, hi]
 simp only [aload, hb, h1, h2, Nat.zero_le, and_self, if_true]
 rfl
theorem afin_np {f : FuncId} {A : AHeap} {v : AV} (ho : C.own f = true) (h : v.noptr = true) : afinR C f A A (some v) = some (v, A) := by
 simp only [afinR, Option.map_some, afinish, ho, if_true]
 rw [acutO_same (by simp)]
 simp [acut, h]
theorem rowStrs_srow : ∀ l : List Bytes, rowStrs (srow l) = some l
 | [] => rfl
 | s :: l => by
   have := rowStrs_srow l
   simp only [srow] at this
   simp only [srow, List.map_cons, rowStrs, this, Option.map_some]
theorem with_ext (args : List AV) (A : AHeap) : acl C 170 args A = withFn 9 args A := by
 rw [acl_ext (c := C) (f := 170) (g := withFn 9) rfl]
theorem with0 {A : AHeap} (k : Bytes) : acl C 170 [.nilS, .d (.str k)] A = some (.own A.bufs.length 1, ⟨A.objs, A.bufs ++ [⟨9, 1, srow [k], 0⟩]⟩) := by
 rw [with_ext]; rfl
theorem with1 {A : AHeap} {tok : Nat} {l : List Bytes} (k : Bytes) (hb : A.bufs[tok]? = some ⟨9, 1, srow l, 0⟩) (hl : l.length ≤ 1099511627776) :
  acl C 170 [.own tok l.length, .d (.str k)] A = some (.own tok (withS l k).length, ⟨A.objs, A.bufs.set tok ⟨9, 1, srow (withS l k), 0⟩⟩) := by
 rw [with_ext]
 simp only [withFn, hb, rowStrs_srow]
 rw [if_pos (by simpa using hl)]
def keyB (b : Int) : Bool := (((decide (97 ≤ b) && decide (b ≤ 122) || decide (48 ≤ b) && decide (b ≤ 57)) || decide (b = 47)) || decide (b = 46)) || decide (b = 95) || decide (b = 45)
theorem keyBP (b : Int) (A : AHeap) : acl C 129 [.d (.int .u8 b)] A = some (.d (.bool (keyB b)), A) := by
 rw [kC Tryz.func129 rfl Tryz.ntmps129 Tryz.results129]
 simp only [go_sem, acondK_bool, keyB]
theorem consistsP (k : Bytes) (A : AHeap) (hl : k.length ≤ 1099511627776) : acl C 128 [.d (.str k), .func (.func 129) [] []] A = some (.d (.bool (!decide (24 < (k.length : Int)) && k.all fun b => keyB (b.toNat : Int))), A) := by
 have kb (b : Int) := keyBP b A
 cases h0 : decide (24 < (k.length : Int)) with
 | true =>
   rw [kC Tryz.func128 rfl Tryz.ntmps128 Tryz.results128]
   simp only [go_sem, acondK_bool, h0, Bool.not_true, Bool.false_and]
 | false =>
 rw [kC Tryz.func128 rfl Tryz.ntmps128 Tryz.results128]
 simp only [go_sem, acondK_bool, h0, Bool.not_false, Bool.true_and]
 refine loop_list (fun n => [(10, .v (.d (.int .i64 (k.length : Nat)))), (1, .v (.func (.func 129) [] [])), (0, .v (.d (.str k))), (11, .v (.d (.int .i64 (n : Int))))]) (fun pre suf => some (.d (.bool (suf.all fun b => keyB (b.toNat : Int))), A)) k rfl rfl ?_
 intro pre suf h ih
 subst h
 have hb : pre.length < 9223372036854775807 := by simp at hl; omega
 cases suf with
 | nil => simp only [go_sem, acondK_bool, List.all_nil]
 | cons x suf =>
   have ih1 := ih x suf rfl
   simp only [List.length_append, List.length_cons, List.length_nil, Nat.zero_add] at ih1
   cases hx : keyB (x.toNat : Int) with
   | true => simp +contextual only [go_sem, acondK_bool, ih1, wrap_nat hb, kb, hx, List.all_cons]
   | false => simp +contextual only [go_sem, acondK_bool, wrap_nat hb, kb, hx, List.all_cons]
def keyV (k : Bytes) : Bool := !(k == []) && (!decide (24 < (k.length : Int)) && k.all fun b => keyB (b.toNat : Int))
theorem keyVP (k : Bytes) (A : AHeap) (hl : k.length ≤ 1099511627776) : acl C 90 [.d (.str k)] A = some (.d (.bool (keyV k)), A) := by
 have c := consistsP k A hl
 rw [kC Tryz.func90 rfl Tryz.ntmps90 Tryz.results90]
 unfold keyV
 cases h : k == [] with
 | true => simp only [go_sem, acondK_bool, h, Bool.not_true, Bool.false_and]
 | false => simp only [go_sem, acondK_bool, h, c, Bool.not_false, Bool.true_and]
abbrev Stm.av (x : Stm) : AV := .agg [.d (.int .i64 x.op), .d (.str x.name), .d (.int .i64 x.max), .d (.int .i64 x.a.op), .d (.int .i64 x.a.n), .d (.str x.a.s), .d (.slice (x.a.args.map E.row)),
  .d (.int .i64 x.b.op), .d (.int .i64 x.b.n), .d (.str x.b.s), .d (.slice (x.b.args.map E.row)), .d (.slice (x.body.map Stm.row)), .d (.slice (x.els.map Stm.row))]
inductive Vis where
 | s (x : Stm) (d : Int)
 | e (x : E) (root : Bool)
mutual
def visE : E → Bool → List Vis
 | .mk op n s args, r => .e (.mk op n s args) r :: visEs args
def visEs : List E → List Vis
 | [] => []
 | x :: l => visE x false ++ visEs l
end
abbrev absE (e : E) : Bool := absentS e.op e.n e.s e.args.length
mutual
def visS : Stm → Int → List Vis
 | .mk op name max a b body els, d => .s (.mk op name max a b body els) d :: ((if absE a = true then [] else visE a true) ++ ((if absE b = true then [] else visE b true) ++
   (visSs body (IntKind.i64.wrap (d + 1)) ++ visSs els (IntKind.i64.wrap (d + 1)))))
def visSs : List Stm → Int → List Vis
 | [], _ => []
 | x :: l, d => visS x d ++ visSs l d
end
theorem visEs_append : ∀ (l m : List E), visEs (l ++ m) = visEs l ++ visEs m
 | [], m => by simp [visEs]
 | x :: l, m => by simp only [List.cons_append, visEs, visEs_append l m, List.append_assoc]
theorem visSs_append (d : Int) : ∀ (l m : List Stm), visSs (l ++ m) d = visSs l d ++ visSs m d
 | [], m => by simp [visSs]
 | x :: l, m => by simp only [List.cons_append, visSs, visSs_append d l m, List.append_assoc]
section
variable {σ : Type} (fs : σ → Stm → Int → σ) (fr : σ → E → σ)
def step1 : Vis → σ → σ
 | .s x d, t => fs t x d
 | .e x true, t => fr t x
 | .e _ false, t => t
def run : List Vis → σ × Nat → σ × Nat
 | [], p => p
 | v :: l, (t, k) => if k = 0 then (t, 0) else run l (step1 fs fr v t, k - 1)
theorem run_zero : ∀ (l : List Vis) (t : σ), run fs fr l (t, 0) = (t, 0)
 | [], _ => rfl
 | _ :: _, _ => by simp [run]
theorem run_append : ∀ (l m : List Vis) (p : σ × Nat), run fs fr (l ++ m) p = run fs fr m (run fs fr l p)
 | [], _, _ => rfl
 | v :: l, m, (t, k) => by
   simp only [List.cons_append, run]
   split
   ·rw [run_zero]
   ·exact run_append l m _
theorem run_le : ∀ (l : List Vis) (p : σ × Nat), run fs fr l p = p ∨ (run fs fr l p).2 < p.2
 | [], _ => .inl rfl
 | v :: l, (t, k) => by
   simp only [run]
   split
   ·rename_i h; subst h; exact .inl rfl
   ·right
    rcases run_le l (step1 fs fr v t, k - 1) with h | h
    ·rw [h]; show k - 1 < k; omega
    ·have : k - 1 < k := by omega
     exact Nat.lt_trans h this
mutual
theorem run_visE (t : σ) : ∀ (e : E) (k : Nat), run fs fr (visE e false) (t, k) = (t, k - (visE e false).length)
 | .mk op n s args, k => by
   simp only [visE, run, step1, List.length_cons]
   split
   ·rename_i h; subst h; simp
   ·rw [run_visEs t args]; congr 1; omega
theorem run_visEs (t : σ) : ∀ (l : List E) (k : Nat), run fs fr (visEs l) (t, k) = (t, k - (visEs l).length)
 | [], k => by simp [visEs, run]
 | x :: l, k => by
   simp only [visEs, run_append, List.length_append]
   rw [run_visE t x, run_visEs t l]
   congr 1
   omega
end
end
structure Wk (σ : Type) where
 w : Nat
 sfn : FuncId
 rfn : FuncId
 scap : List AV
 rcap : List AV
 H : σ → Nat → AHeap
 fs : σ → Stm → Int → σ
 fr : σ → E → σ
 Inv : σ → Nat → Prop
 le : ∀ t k, Inv t k → k ≤ 401
 obj : ∀ t k, (H t k).objs[w]? = some (.cells [.d (.int .i64 (k : Nat)), .func (.func sfn) [] scap, .func (.func rfn) [] rcap])
 set : ∀ t k k', (⟨(H t k).objs.set w (.cells [.d (.int .i64 (k' : Nat)), .func (.func sfn) [] scap, .func (.func rfn) [] rcap]), (H t k).bufs⟩ : AHeap) = H t k'
 stmt : ∀ t k x d, x.Ok → Inv t (k + 1) → acl C sfn (Stm.av x :: .d (.int .i64 d) :: scap) (H t k) = some (.tuple [], H (fs t x d) k)
 root : ∀ t k e, e.Ok → Inv t (k + 1) → acl C rfn (E.av e :: rcap) (H t (k + 1)) = some (.tuple [], H (fr t e) (k + 1))
 inv_s : ∀ t k x d, Inv t (k + 1) → Inv (fs t x d) k
 inv_r : ∀ t k e, Inv t (k + 1) → Inv (fr t e) k
 inv_e : ∀ t k, Inv t (k + 1) → Inv t k
theorem wrap_pred {k : Nat} (h : k ≤ 401) : IntKind.i64.wrap (((k + 1 : Nat) : Int) - 1) = (k : Int) := by
 rw [wrap_in] <;> omega
theorem succ_ne {k : Nat} : decide (((k + 1 : Nat) : Int) = 0) = false := by simp; omega
section
variable {σ : Type} (Z : Wk σ)
theorem Wk.run_inv : ∀ (l : List Vis) (t : σ) (k : Nat), Z.Inv t k → Z.Inv (run Z.fs Z.fr l (t, k)).1 (run Z.fs Z.fr l (t, k)).2
 | [], _, _, h => h
 | v :: l, t, k, h => by
   simp only [run]
   split
   ·rename_i h0; subst h0; exact h
   ·obtain ⟨j, rfl⟩ : ∃ j, k = j + 1 := ⟨k - 1, by omega⟩
    refine Wk.run_inv l _ _ ?_
    rw [Nat.add_sub_cancel]
    match v with
    | .s x d => exact Z.inv_s t j x d h
    | .e x true => exact Z.inv_r t j x h
    | .e x false => exact Z.inv_e t j h
theorem Wk.loud {t t' : σ} {k k' : Nat} (h : k ≠ k') : (Z.H t k).objs.take (Z.H t' k').objs.length ≠ (Z.H t' k').objs := by
 intro he
 have h1 := Z.obj t' k'
 have h2 : ((Z.H t k).objs.take (Z.H t' k').objs.length)[Z.w]? = (Z.H t k).objs[Z.w]? := by
  rw [List.getElem?_take, if_pos (lt_of_get h1)]
 rw [he, h1, Z.obj t k] at h2
 simp at h2
 omega
theorem Wk.afin {f : FuncId} (ho : C.own f = false) {t t' : σ} {k k' : Nat} (h : (t', k') = (t, k) ∨ k' < k) : afinR C f (Z.H t k) (Z.H t' k') (some (.tuple [])) = some (.tuple [], Z.H t' k') := by
 rcases h with h | h
 ·cases h; exact afinR_still ho rfl
 ·exact afinR_loud ho rfl (Z.loud (by omega))
theorem Wk.expr : ∀ e, E.Ok e → ∀ (t : σ) (k : Nat), k ≤ 401 → acl C 181 [.ptr Z.w 0, E.av e] (Z.H t k) = some (.tuple [], Z.H t (k - (visE e false).length)) := by
 intro e
 induction e using E.ind with
 | h op n s args ih =>
   intro hok t k hk
   rw [kC Tryz.func181 rfl Tryz.ntmps181 Tryz.results181]
   cases k with
   | zero => simp +contextual only [go_sem, acondK_bool, Z.obj, Nat.zero_sub]
   | succ k =>
     simp +contextual only [go_sem, acondK_bool, Z.obj, succ_ne, wrap_pred (show k ≤ 401 by omega), Z.set]
     refine loop_any (fun pre => [(21, .v (.d (.int .i64 (pre.length : Nat)))), (0, .v (.ptr Z.w 0)), (19, .v (.d (.slice (args.map E.row)))), (20, .v (.d (.int .i64 (args.length : Nat))))])
      (fun pre => Z.H t (k - (visEs pre).length)) (fun _ _ => some (.tuple [], Z.H t (k - (visEs args).length))) args rfl (by simp [visEs]) ?_ ?_
     ·simp only [visE, List.length_cons, Nat.add_sub_add_right]
     intro pre suf hl ih2
     have hb : pre.length < 9223372036854775807 := by have := hok.len; rw [hl] at this; simp at this; omega
     cases suf with
     | nil =>
       rw [List.append_nil] at hl
       subst hl
       have hf := Z.afin (f := 181) rfl (t := t) (t' := t) (k := k + 1) (k' := k - (visEs args).length) (.inr (by omega))
       simp +contextual only [go_sem, acondK_bool, hf]
     | cons x suf =>
       have hx : x ∈ args := by rw [hl]; simp
       have e1 := ih x hx (hok.arg x hx) t (k - (visEs pre).length) (by omega)
       have e2 := ih2 x suf rfl
       rw [visEs_append] at e2
       simp only [visEs, List.append_nil, List.length_append, List.length_cons, List.length_nil] at e2
       have e3 : k - (visEs pre).length - (visE x false).length = k - ((visEs pre).length + (visE x false).length) := by omega
       rw [e3] at e1
       rw [hl] at e2 ⊢
       simp only [List.length_append, List.length_cons] at e2
       simp +contextual only [go_sem, acondK_bool, E.row_eq, e1, e2, wrap_nat hb]
end
section
variable {σ : Type} (Z : Wk σ)
theorem visE_len (e : E) (r : Bool) : (visE e r).length = (visEs e.args).length + 1 := by
 cases e; simp [visE]
theorem run_root (e : E) (t : σ) (k : Nat) : run Z.fs Z.fr (visE e true) (t, k + 1) = (Z.fr t e, k + 1 - (visE e false).length) := by
 cases e
 simp only [visE, run, step1, Nat.add_one_ne_zero, if_false, Nat.add_sub_cancel, run_visEs, List.length_cons]
 congr 1
 omega
theorem Wk.first (e : E) (hok : E.Ok e) (t : σ) (k : Nat) (hI : Z.Inv t k) : acl C 158 [.ptr Z.w 0, E.av e] (Z.H t k) =
  some (.tuple [], Z.H (run Z.fs Z.fr (if absE e = true then [] else visE e true) (t, k)).1 (run Z.fs Z.fr (if absE e = true then [] else visE e true) (t, k)).2) := by
 rw [kC Tryz.func158 rfl Tryz.ntmps158 Tryz.results158]
 have hk := Z.le t k hI
 cases k with
 | zero => simp +contextual only [go_sem, acondK_bool, Z.obj, run_zero, k_drawn_t]
 | succ k =>
   simp only [go_sem, Z.obj, succ_ne, k_drawn_t]
   refine wayK (fun h => ?_) (fun h => ?_)
   ·simp +contextual only [go_sem, acondK_bool, h, run]
   ·have e1 := Z.root t k e hok hI
    simp +contextual only [go_sem, acondK_bool, h, k_drawn_t, Z.obj, e1]
    refine Eq.trans (ctE_ok (by repeat (first | exact MLe.nil | apply MLe.q | apply MLe.o | apply MLe.b | apply MLe.l)) (by kernel_rfl)) ?_
    have e2 := Z.expr e hok (Z.fr t e) (k + 1) hk
    have hf := Z.afin (f := 158) rfl (t := t) (t' := Z.fr t e) (k := k + 1) (k' := k + 1 - (visE e false).length) (.inr (by rw [visE_len]; omega))
    simp +contextual only [go_sem, acondK_bool, e2, hf, run_root]
theorem Stm.Ok.a {x : Stm} (h : x.Ok) : x.a.Ok := by cases h; assumption
theorem Stm.Ok.b {x : Stm} (h : x.Ok) : x.b.Ok := by cases h; assumption
theorem Stm.Ok.bodyLen {x : Stm} (h : x.Ok) : x.body.length ≤ 1099511627776 := by cases h; assumption
theorem Stm.Ok.elsLen {x : Stm} (h : x.Ok) : x.els.length ≤ 1099511627776 := by cases h; assumption
theorem Stm.Ok.bodyOk {x : Stm} (h : x.Ok) : ∀ y, y ∈ x.body → y.Ok := by cases h; assumption
theorem Stm.Ok.elsOk {x : Stm} (h : x.Ok) : ∀ y, y ∈ x.els → y.Ok := by cases h; assumption
theorem Wk.block_of (l : List Stm) (hlen : l.length ≤ 1099511627776) (hok : ∀ x ∈ l, x.Ok)
  (ih : ∀ x ∈ l, ∀ (m : List Stm), m = x.body ∨ m = x.els → ∀ (d : Int) (t : σ) (k : Nat), Z.Inv t k → acl C 115 [.ptr Z.w 0, .d (.slice (m.map Stm.row)), .d (.int .i64 d)] (Z.H t k) = some (.tuple [], Z.H (run Z.fs Z.fr (visSs m d) (t, k)).1 (run Z.fs Z.fr (visSs m d) (t, k)).2))
  (d : Int) (t : σ) (k : Nat) (hI : Z.Inv t k) :
  acl C 115 [.ptr Z.w 0, .d (.slice (l.map Stm.row)), .d (.int .i64 d)] (Z.H t k) = some (.tuple [], Z.H (run Z.fs Z.fr (visSs l d) (t, k)).1 (run Z.fs Z.fr (visSs l d) (t, k)).2) := by
 rw [kC Tryz.func115 rfl Tryz.ntmps115 Tryz.results115]
 simp +contextual only [go_sem, acondK_bool]
 refine loop_any (fun pre => [(9, .v (.d (.int .i64 (l.length : Nat)))), (8, .v (.d (.slice (l.map Stm.row)))), (2, .v (.d (.int .i64 d))), (0, .v (.ptr Z.w 0)), (10, .v (.d (.int .i64 (pre.length : Nat))))])
  (fun pre => Z.H (run Z.fs Z.fr (visSs pre d) (t, k)).1 (run Z.fs Z.fr (visSs pre d) (t, k)).2)
  (fun _ _ => some (.tuple [], Z.H (run Z.fs Z.fr (visSs l d) (t, k)).1 (run Z.fs Z.fr (visSs l d) (t, k)).2)) l rfl (by simp [visSs, run]) rfl ?_
 intro pre suf hl ih2
 have hb : pre.length < 9223372036854775807 := by rw [hl] at hlen; simp at hlen; omega
 have hIp := Z.run_inv (visSs pre d) t k hI
 have hcase := run_le Z.fs Z.fr (visSs pre d) (t, k)
 cases suf with
 | nil =>
   rw [List.append_nil] at hl
   subst hl
   have hf := Z.afin (f := 115) rfl (t := t) (t' := (run Z.fs Z.fr (visSs l d) (t, k)).1) (k := k) (k' := (run Z.fs Z.fr (visSs l d) (t, k)).2) hcase
   simp +contextual only [go_sem, acondK_bool, hf]
 | cons x suf =>
   have hx : x ∈ l := by rw [hl]; simp
   have hxo := hok x hx
   have e2 := ih2 x suf rfl
   rw [visSs_append, run_append] at e2
   simp only [visSs, List.append_nil, List.length_append, List.length_cons, List.length_nil] at e2
   have hall : run Z.fs Z.fr (visSs l d) (t, k) = run Z.fs Z.fr (visSs suf d) (run Z.fs Z.fr (visS x d) (run Z.fs Z.fr (visSs pre d) (t, k))) := by
    rw [hl, visSs_append, run_append]
    simp only [visSs, run_append]
   generalize hr : run Z.fs Z.fr (visSs pre d) (t, k) = r at *
   obtain ⟨t1, k1⟩ := r
   cases k1 with
   | zero =>
     have hf := Z.afin (f := 115) rfl (t := t) (t' := t1) (k := k) (k' := 0) hcase
     have hend : run Z.fs Z.fr (visSs l d) (t, k) = (t1, 0) := by rw [hall, run_zero, run_zero]
     rw [hend, hl]
     simp only [List.length_append, List.length_cons]
     simp +contextual only [go_sem, acondK_bool, Stm.row_eq, Z.obj, hf]
   | succ k1 =>
     have hle := Z.le _ _ hIp
     have e3 := Z.stmt t1 k1 x d hxo hIp
     have hI3 := Z.inv_s t1 k1 x d hIp
     rw [hl] at e2 ⊢
     simp only [List.length_append, List.length_cons] at e2 ⊢
     simp +contextual only [go_sem, acondK_bool, Stm.row_eq, Z.obj, succ_ne, wrap_pred (show k1 ≤ 401 by omega), Z.set, k_drawn_t, e3]
     refine Eq.trans (ctE_ok (by repeat (first | exact MLe.nil | apply MLe.q | apply MLe.o | apply MLe.b | apply MLe.l)) (by kernel_rfl)) ?_
     have f1 := Z.first x.a (Stm.Ok.a hxo) (Z.fs t1 x d) k1 hI3
     have I1 := Z.run_inv (if absE x.a = true then [] else visE x.a true) (Z.fs t1 x d) k1 hI3
     generalize hp1 : run Z.fs Z.fr (if absE x.a = true then [] else visE x.a true) (Z.fs t1 x d, k1) = p1 at f1 I1
     have f2 := Z.first x.b (Stm.Ok.b hxo) p1.1 p1.2 I1
     have I2 := Z.run_inv (if absE x.b = true then [] else visE x.b true) p1.1 p1.2 I1
     generalize hp2 : run Z.fs Z.fr (if absE x.b = true then [] else visE x.b true) (p1.1, p1.2) = p2 at f2 I2
     have f3 := ih x hx x.body (.inl rfl) (IntKind.i64.wrap (d + 1)) p2.1 p2.2 I2
     have I3 := Z.run_inv (visSs x.body (IntKind.i64.wrap (d + 1))) p2.1 p2.2 I2
     generalize hp3 : run Z.fs Z.fr (visSs x.body (IntKind.i64.wrap (d + 1))) (p2.1, p2.2) = p3 at f3 I3
     have f4 := ih x hx x.els (.inr rfl) (IntKind.i64.wrap (d + 1)) p3.1 p3.2 I3
     generalize hp4 : run Z.fs Z.fr (visSs x.els (IntKind.i64.wrap (d + 1))) (p3.1, p3.2) = p4 at f4
     have hV : run Z.fs Z.fr (visS x d) (t1, k1 + 1) = p4 := by
      rw [← hp4]
      obtain ⟨op, name, max, a, b, body, els⟩ := x
      simp only [visS, run, step1, Nat.add_one_ne_zero, if_false, Nat.add_sub_cancel, run_append]
      simp only [hp1, hp2, hp3]
     rw [hV] at e2
     simp +contextual only [go_sem, acondK_bool, f1, f2, f3, f4, e2, wrap_nat hb]
theorem Wk.inner : ∀ x : Stm, x.Ok → ∀ (m : List Stm), m = x.body ∨ m = x.els → ∀ (d : Int) (t : σ) (k : Nat), Z.Inv t k → acl C 115 [.ptr Z.w 0, .d (.slice (m.map Stm.row)), .d (.int .i64 d)] (Z.H t k) = some (.tuple [], Z.H (run Z.fs Z.fr (visSs m d) (t, k)).1 (run Z.fs Z.fr (visSs m d) (t, k)).2) := by
 intro x
 induction x using Stm.ind with
 | h op name max a b body els ihb ihe =>
   intro hok m hm d t k hI
   rcases hm with rfl | rfl
   ·exact Z.block_of _ (Stm.Ok.bodyLen hok) (Stm.Ok.bodyOk hok) (fun y hy => ihb y hy (Stm.Ok.bodyOk hok y hy)) d t k hI
   ·exact Z.block_of _ (Stm.Ok.elsLen hok) (Stm.Ok.elsOk hok) (fun y hy => ihe y hy (Stm.Ok.elsOk hok y hy)) d t k hI
theorem Wk.block (l : List Stm) (hlen : l.length ≤ 1099511627776) (hok : ∀ x ∈ l, x.Ok) (d : Int) (t : σ) (k : Nat) (hI : Z.Inv t k) :
  acl C 115 [.ptr Z.w 0, .d (.slice (l.map Stm.row)), .d (.int .i64 d)] (Z.H t k) = some (.tuple [], Z.H (run Z.fs Z.fr (visSs l d) (t, k)).1 (run Z.fs Z.fr (visSs l d) (t, k)).2) :=
 Z.block_of l hlen hok (fun x hx => Z.inner x (hok x hx)) d t k hI
end
abbrev Pr.av (p : Pr) : AV := .agg [.d (.str p.name), .d (.slice (p.params.map Pm.row)), .d (.slice (p.body.map Stm.row))]
theorem wrap_401 {k : Nat} (h : k ≤ 401) : IntKind.i64.wrap (401 - (k : Int)) = 401 - (k : Int) := by
 rw [wrap_in] <;> omega
theorem Wk.walk {σ : Type} (Z : Wk σ) (p : Pr) (hp : p.Ok) (t0 : σ) (A : AHeap) (hw : A.objs.length = Z.w) (hI : Z.Inv t0 401)
  (hH : (⟨A.objs ++ [.cells [.d (.int .i64 401), .func (.func Z.sfn) [] Z.scap, .func (.func Z.rfn) [] Z.rcap]], A.bufs⟩ : AHeap) = Z.H t0 401) :
  acl C 74 [Pr.av p, .func (.func Z.sfn) [] Z.scap, .func (.func Z.rfn) [] Z.rcap] A =
   afinR C 74 A (Z.H (run Z.fs Z.fr (visSs p.body 1) (t0, 401)).1 (run Z.fs Z.fr (visSs p.body 1) (t0, 401)).2) (some (.d (.int .i64 (401 - ((run Z.fs Z.fr (visSs p.body 1) (t0, 401)).2 : Int))))) := by
 rw [kC Tryz.func74 rfl Tryz.ntmps74 Tryz.results74]
 have e1 := Z.block p.body hp.blen hp.body 1 t0 401 hI
 have hk := Z.le _ _ (Z.run_inv (visSs p.body 1) t0 401 hI)
 simp +contextual only [go_sem, acondK_bool, hH, hw, e1, Z.obj, wrap_401 hk]
def wkH {σ : Type} (sfn rfn : FuncId) (scap rcap : List AV) (base : σ → List AObj) (bufs : σ → List ABuf) (t : σ) (k : Nat) : AHeap :=
 ⟨base t ++ [.cells [.d (.int .i64 (k : Nat)), .func (.func sfn) [] scap, .func (.func rfn) [] rcap]], bufs t⟩
theorem wkH_obj {σ : Type} {sfn rfn : FuncId} {scap rcap : List AV} {base : σ → List AObj} {bufs : σ → List ABuf} {w : Nat} (hw : ∀ t, (base t).length = w) (t : σ) (k : Nat) :
  (wkH sfn rfn scap rcap base bufs t k).objs[w]? = some (.cells [.d (.int .i64 (k : Nat)), .func (.func sfn) [] scap, .func (.func rfn) [] rcap]) := by
 rw [← hw t]
 simp [wkH]
theorem wkH_set {σ : Type} {sfn rfn : FuncId} {scap rcap : List AV} {base : σ → List AObj} {bufs : σ → List ABuf} {w : Nat} (hw : ∀ t, (base t).length = w) (t : σ) (k k' : Nat) :
  (⟨(wkH sfn rfn scap rcap base bufs t k).objs.set w (.cells [.d (.int .i64 (k' : Nat)), .func (.func sfn) [] scap, .func (.func rfn) [] rcap]), (wkH sfn rfn scap rcap base bufs t k).bufs⟩ : AHeap) = wkH sfn rfn scap rcap base bufs t k' := by
 rw [← hw t]
 simp [wkH]
theorem noStmt (x : Stm) (d : Int) (A : AHeap) : acl C 182 [Stm.av x, .d (.int .i64 d)] A = some (.tuple [], A) := by
 rw [kC Tryz.func182 rfl Tryz.ntmps182 Tryz.results182]
 simp +contextual only [go_sem, acondK_bool]
theorem noRoot (e : E) (A : AHeap) : acl C 76 [E.av e] A = some (.tuple [], A) := by
 rw [kC Tryz.func76 rfl Tryz.ntmps76 Tryz.results76]
 simp +contextual only [go_sem, acondK_bool]
theorem run_len {σ : Type} (fs : σ → Stm → Int → σ) (fr : σ → E → σ) : ∀ (l : List Vis) (t : σ) (k : Nat), (run fs fr l (t, k)).2 = k - l.length
 | [], t, k => by simp [run]
 | v :: l, t, k => by
   simp only [run]
   split
   ·rename_i h; subst h; simp
   ·rw [run_len fs fr l]; simp; omega
def Vis.row : Vis → List Dat
 | .s x d => [.bool true, .int .i64 x.op, .str x.name, .int .i64 x.max, .int .i64 x.a.op, .int .i64 x.a.n, .str x.a.s, .slice (x.a.args.map E.row),
   .int .i64 x.b.op, .int .i64 x.b.n, .str x.b.s, .slice (x.b.args.map E.row), .slice (x.body.map Stm.row), .slice (x.els.map Stm.row), .int .i64 d, .int .i64 0, .int .i64 0, .str [], .slice [], .bool false]
 | .e y r => [.bool false, .int .i64 0, .str [], .int .i64 0, .int .i64 0, .int .i64 0, .str [], .slice [], .int .i64 0, .int .i64 0, .str [], .slice [], .slice [], .slice [], .int .i64 0,
   .int .i64 y.op, .int .i64 y.n, .str y.s, .slice (y.args.map E.row), .bool r]
def visP (p : Pr) : List Vis := (visSs p.body 1).take 401
theorem validExpr (e : E) (hok : E.Ok e) (A : AHeap) : acl C 156 [E.av e] A = some (.d (.int .i64 (chkE e 1)), A) := by
 rw [kC Tryz.func156 rfl Tryz.ntmps156 Tryz.results156]
 simp +contextual only [go_sem, acondK_bool, check e hok]
def uN (op : Int) : Bool := decide (op = 1) || decide (op = 2) || decide (op = 6)
def uA (op : Int) : Bool := decide (1 ≤ op) && decide (op ≤ 7)
def uB (op : Int) : Bool := decide (op = 3) || decide (op = 6)
def uM (op : Int) : Bool := decide (op = 6) || decide (op = 8)
def uBo (op : Int) : Bool := decide (op = 5) || decide (op = 6)
def uO (op : Int) : Bool := decide (op = 5)
def kn (op : Int) : Bool := decide (1 ≤ op) && decide (op ≤ 8)
theorem usesOf (op : Int) (A : AHeap) : acl C 154 [.d (.int .i64 op)] A =
  some (.tuple [.agg [.d (.bool (uN op)), .d (.bool (uA op)), .d (.bool (uB op)), .d (.bool (uM op)), .d (.bool (uBo op)), .d (.bool (uO op))], .d (.bool (kn op))], A) := by
 rw [kC Tryz.func154 rfl Tryz.ntmps154 Tryz.results154]
 simp only [go_sem]
 repeat' (refine wayK (fun h => ?_) (fun h => ?_) <;> (try simp only [go_sem, h]))
 all_goals
  simp only [Option.some.injEq, Prod.mk.injEq, AV.tuple.injEq, AV.agg.injEq, List.cons.injEq, AV.d.injEq, Dat.bool.injEq, and_true]
  simp at *
  simp only [uN, uA, uB, uM, uBo, uO, kn]
  first
   | (subst_vars; decide)
   | (refine ⟨⟨?_, ?_, ?_, ?_, ?_, ?_⟩, ?_⟩ <;> simp <;> omega)
def badF (n a b m bo o : Bool) (x : Stm) : Bool :=
 !n && !(x.name == []) || !a && !absE x.a || !b && !absE x.b || !m && !decide (x.max = 0) || !bo && decide (0 < (x.body.length : Int)) || !o && decide (0 < (x.els.length : Int))
def maxOk (x : Stm) : Bool := if decide (x.op = 6) = true then decide (1 ≤ x.max) && decide (x.max ≤ 16) else if decide (x.op = 8) = true then decide (0 ≤ x.max) && decide (x.max ≤ 999) else true
theorem shape (x : Stm) (n a b m bo o : Bool) (A : AHeap) : acl C 155 [Stm.av x, .agg [.d (.bool n), .d (.bool a), .d (.bool b), .d (.bool m), .d (.bool bo), .d (.bool o)]] A = some (.d (.bool (!badF n a b m bo o x && maxOk x)), A) := by
 rw [kC Tryz.func155 rfl Tryz.ntmps155 Tryz.results155]
 simp only [go_sem, acondK_bool, badF, maxOk, absE, ifnot]
def stmtS (x : Stm) (d : Int) : Int :=
 if (!kn x.op || !(!badF (uN x.op) (uA x.op) (uB x.op) (uM x.op) (uBo x.op) (uO x.op) x && maxOk x)) = true then 1
 else if (uN x.op && !isName x.name) = true then 7
 else if (uA x.op && !decide (chkE x.a 1 = 0)) = true then chkE x.a 1
 else if (uB x.op && !decide (chkE x.b 1 = 0)) = true then chkE x.b 1
 else if 12 < d then 2 else 0
theorem Stm.Ok.name {x : Stm} (h : x.Ok) : x.name.length ≤ 1099511627776 := by cases h; assumption
theorem statement (x : Stm) (hx : x.Ok) (d : Int) (A : AHeap) : acl C 113 [Stm.av x, .d (.int .i64 d)] A = some (.d (.int .i64 (stmtS x d)), A) := by
 rw [kC Tryz.func113 rfl Tryz.ntmps113 Tryz.results113]
 have h1 := Stm.Ok.name hx
 simp only [go_sem, acondK_bool, usesOf, shape, h1, validExpr x.a (Stm.Ok.a hx), validExpr x.b (Stm.Ok.b hx)]
 refine leafI ?_
 simp only [stmtS]
 generalize (!badF (uN x.op) (uA x.op) (uB x.op) (uM x.op) (uBo x.op) (uO x.op) x && maxOk x) = p
 cases kn x.op <;> cases p <;> cases uA x.op <;> cases uB x.op <;> simp
def idxF {α : Type} (q : α → Bool) : List α → Nat → Int
 | [], _ => -1
 | x :: l, i => if q x = true then (i : Int) else idxF q l (i + 1)
theorem idxF_nonneg {α : Type} (q : α → Bool) : ∀ (l : List α) (i : Nat), decide (0 ≤ idxF q l i) = l.any q
 | [], i => by simp [idxF]
 | x :: l, i => by
   have ih := idxF_nonneg q l (i + 1)
   by_cases h : q x = true
   ·simp [idxF, h]
   ·simp [idxF, h] at ih ⊢
    exact ih
abbrev Pm.av (x : Pm) : AV := .agg [.d (.str x.name), .d (.int .i64 x.type)]
theorem indexFunc (l : List Pm) (hl : l.length ≤ 1099511627776) (f : FuncId) (cs : List AV) (q : Pm → Bool) (A : AHeap) (hq : ∀ x ∈ l, acl C f (Pm.av x :: cs) A = some (.d (.bool (q x)), A)) :
  acl C 177 [.d (.slice (l.map Pm.row)), .func (.func f) [] cs] A = some (.d (.int .i64 (idxF q l 0)), A) := by
 rw [kC Tryz.func177 rfl Tryz.ntmps177 Tryz.results177]
 simp +contextual only [go_sem, acondK_bool]
 refine loop_list (fun i => [(7, .v (.d (.int .i64 (l.length : Nat)))), (1, .v (.func (.func f) [] cs)), (0, .v (.d (.slice (l.map Pm.row)))), (8, .v (.d (.int .i64 (i : Nat))))])
  (fun pre suf => some (.d (.int .i64 (idxF q suf pre.length)), A)) l rfl rfl ?_
 intro pre suf h ih
 have hb : pre.length < 9223372036854775807 := by rw [h] at hl; simp at hl; omega
 cases suf with
 | nil => rw [List.append_nil] at h; subst h; simp +contextual only [go_sem, acondK_bool, idxF]
 | cons x suf =>
   have e1 := hq x (by rw [h]; simp)
   have e2 := ih x suf rfl
   rw [List.length_append, List.length_cons, List.length_nil] at e2
   have e3 : (l.map Pm.row)[pre.length]? = some [.str x.name, .int .i64 x.type] := by rw [h]; exact map_mid
   have e4 : decide ((pre.length : Int) < (l.length : Int)) = true := by rw [h]; simp; omega
   simp +contextual only [go_sem, acondK_bool, e3, e4, e1, e2, wrap_nat hb, idxF]
theorem containsFunc (l : List Pm) (hl : l.length ≤ 1099511627776) (f : FuncId) (cs : List AV) (q : Pm → Bool) (A : AHeap) (hq : ∀ x ∈ l, acl C f (Pm.av x :: cs) A = some (.d (.bool (q x)), A)) :
  acl C 152 [.d (.slice (l.map Pm.row)), .func (.func f) [] cs] A = some (.d (.bool (l.any q)), A) := by
 rw [kC Tryz.func152 rfl Tryz.ntmps152 Tryz.results152]
 have e1 := indexFunc l hl f cs q A hq
 simp +contextual only [go_sem, acondK_bool, e1, idxF_nonneg]
theorem sameName (y : Pm) (id : Nat) (n : Bytes) (t : Int) (A : AHeap) (h : A.objs[id]? = some (.cells [.d (.str n), .d (.int .i64 t)])) : acl C 153 [Pm.av y, .ptr id 0] A = some (.d (.bool (y.name == n)), A) := by
 rw [kC Tryz.func153 rfl Tryz.ntmps153 Tryz.results153]
 simp +contextual only [go_sem, acondK_bool, h]
def prmF : List Pm → List Pm → Int
 | _, [] => 0
 | pre, x :: l => if (!isName x.name) = true then 7 else if (decide (x.type < 1) || decide (3 < x.type)) = true then 10 else if (pre.any fun y => y.name == x.name) = true then 8 else prmF (pre ++ [x]) l
def prmS (l : List Pm) : Int := if decide (6 < (l.length : Int)) = true then 2 else prmF [] l
def prmC (x : Pm) : AObj := .cells [.d (.str x.name), .d (.int .i64 x.type)]
theorem get_map_behind {α β : Type} {f : α → β} {pre : List α} {m : List β} : (pre.map f ++ m)[pre.length]? = m[0]? := by
 have := get_behind0 (l := pre.map f) (m := m)
 rwa [List.length_map] at this
theorem set_map_behind {α β : Type} {f : α → β} {pre : List α} {m : List β} {x : β} : (pre.map f ++ m).set pre.length x = pre.map f ++ m.set 0 x := by
 have := set_behind0 (l := pre.map f) (m := m) (x := x)
 rwa [List.length_map] at this
theorem elem_some {e : Option (TypeId × Nat)} {x : TypeId × Nat} (h : e = some x) : e.isSome = true := by rw [h]; rfl
theorem params (l : List Pm) (hl : l.length ≤ 1099511627776) (hok : ∀ x ∈ l, x.Ok) (A : AHeap) : acl C 111 [.d (.slice (l.map Pm.row))] A = some (.d (.int .i64 (prmS l)), A) := by
 rw [kC Tryz.func111 rfl Tryz.ntmps111 Tryz.results111]
 simp only [go_sem]
 refine wayK (fun h6 => ?_) (fun h6 => ?_)
 ·simp +contextual only [go_sem, acondK_bool, h6, prmS]
 simp +contextual only [go_sem, acondK_bool, prmS, h6]
 refine loop_any (fun pre => [(9, .v (.d (.int .i64 (l.length : Nat)))), (8, .v (.d (.slice (l.map Pm.row)))), (0, .v (.d (.slice (l.map Pm.row)))), (10, .v (.d (.int .i64 (pre.length : Nat))))])
  (fun pre => ⟨A.objs ++ pre.map prmC, A.bufs⟩) (fun pre suf => some (.d (.int .i64 (prmF pre suf)), A)) l rfl (by simp) rfl ?_
 intro pre suf h ih
 have hb : pre.length < 9223372036854775807 := by rw [h] at hl; simp at hl; omega
 cases suf with
 | nil => rw [List.append_nil] at h; subst h; simp +contextual only [go_sem, acondK_bool, prmF]
 | cons x suf =>
   have hx := hok x (by rw [h]; simp)
   have e2 := ih x suf rfl
   simp only [List.length_append, List.length_cons, List.length_nil, List.map_append, List.map_cons, List.map_nil] at e2
   have e3 : (l.map Pm.row)[pre.length]? = some [.str x.name, .int .i64 x.type] := by rw [h]; exact map_mid
   have e4 : decide ((pre.length : Int) < (l.length : Int)) = true := by rw [h]; simp; omega
   have e5 : pre.length ≤ l.length := by rw [h]; simp
   have e6 : (l.map Pm.row).take pre.length = pre.map Pm.row := by rw [h]; simp
   have e7 := containsFunc pre (by omega) 153 [.ptr (A.objs.length + pre.length) 0] (fun y => y.name == x.name) ⟨A.objs ++ (pre.map prmC ++ [prmC x]), A.bufs⟩
    (fun y _ => sameName y _ _ x.type _ (by simp only [get_behind, get_map_behind]; rfl))
   have e8 := elem_some elem_22
   simp only [prmC] at e2 e7
   simp +contextual only [go_sem, acondK_bool, e3, e4, e5, e6, e7, e2, Option.isSome_some, hx.name, get_map_behind, set_map_behind, prmF, prmC, wrap_nat hb]
def valF (t : Int) (x : Stm) (d : Int) : Int := if decide (t = 0) = true then stmtS x d else t
theorem validateStep (x : Stm) (hx : x.Ok) (d t : Int) (A : AHeap) (w : AObj) (b : List ABuf) : acl C 112 [Stm.av x, .d (.int .i64 d), .ptr A.objs.length 0] ⟨A.objs ++ [.cells [.d (.int .i64 t)], w], b⟩ =
  some (.tuple [], ⟨A.objs ++ [.cells [.d (.int .i64 (valF t x d))], w], b⟩) := by
 rw [kC Tryz.func112 rfl Tryz.ntmps112 Tryz.results112]
 unfold valF
 cases h : decide (t = 0) with
 | true => simp +contextual only [go_sem, acondK_bool, h, statement x hx, afinR_len]
 | false => simp +contextual only [go_sem, acondK_bool, h, statement x hx, afinR_len]
def wkV (A : AHeap) : Wk Int where
 w := A.objs.length + 1
 sfn := 112
 rfn := 76
 scap := [.ptr A.objs.length 0]
 rcap := []
 H := wkH 112 76 [.ptr A.objs.length 0] [] (fun t => A.objs ++ [.cells [.d (.int .i64 t)]]) (fun _ => A.bufs)
 fs := valF
 fr := fun t _ => t
 Inv := fun _ k => k ≤ 401
 le := fun _ _ h => h
 obj := wkH_obj fun _ => by simp
 set := wkH_set fun _ => by simp
 stmt := fun t k x d hx _ => by
  have := validateStep x hx d t A (.cells [.d (.int .i64 (k : Nat)), .func (.func 112) [] [.ptr A.objs.length 0], .func (.func 76) [] []]) A.bufs
  unfold wkH
  simp only [List.append_assoc, List.cons_append, List.nil_append]
  exact this
 root := fun t k e _ _ => noRoot e _
 inv_s := fun _ _ _ _ h => by omega
 inv_r := fun _ _ _ h => by omega
 inv_e := fun _ _ h => by omega
def errV : List Vis → Int
 | [] => 0
 | .s x d :: l => if stmtS x d = 0 then errV l else stmtS x d
 | .e _ _ :: l => errV l
theorem run_val_err : ∀ (l : List Vis) (t : Int) (k : Nat), t ≠ 0 → (run valF (fun t _ => t) l (t, k)).1 = t
 | [], t, k, _ => rfl
 | v :: l, t, k, h => by
   simp only [run]
   split
   ·rfl
   ·have hs : step1 valF (fun t _ => t) v t = t := by
     match v with
     | .s x d => simp [step1, valF, h]
     | .e x true => rfl
     | .e x false => rfl
    rw [hs]
    exact run_val_err l t _ h
theorem run_val : ∀ (l : List Vis) (k : Nat), (run valF (fun t _ => t) l (0, k)).1 = errV (l.take k)
 | [], k => by simp [run, errV]
 | v :: l, k => by
   simp only [run]
   split
   ·rename_i h; subst h; rfl
   ·obtain ⟨j, rfl⟩ : ∃ j, k = j + 1 := ⟨k - 1, by omega⟩
    rw [Nat.add_sub_cancel, List.take_succ_cons]
    match v with
    | .s x d =>
      simp only [step1, valF, errV, decide_true, if_true]
      by_cases h : stmtS x d = 0
      ·rw [h, if_pos rfl]; exact run_val l j
      ·rw [if_neg h]; exact run_val_err l _ j h
    | .e x true => exact run_val l j
    | .e x false => exact run_val l j
def valS (p : Pr) : Int := if (!isName p.name) = true then 7 else if prmS p.params = 0 then (if errV (visP p) = 0 then (if decide ((400 : Int) < (((visP p).length : Nat) : Int)) = true then 2 else 0) else errV (visP p)) else prmS p.params
theorem validate (p : Pr) (hp : p.Ok) (A : AHeap) : acl C 71 [Pr.av p] A = some (.d (.int .i64 (valS p)), A) := by
 rw [kC Tryz.func71 rfl Tryz.ntmps71 Tryz.results71]
 cases h1 : isName p.name with
 | false => simp +contextual only [go_sem, acondK_bool, hp.name, h1, valS]
 | true =>
 by_cases h2 : prmS p.params = 0
 ·have e1 := (wkV A).walk p hp 0 ⟨A.objs ++ [.cells [.d (.int .i64 0)]], A.bufs⟩ (by simp [wkV]) (Nat.le_refl _) rfl
  have e2 : (run (wkV A).fs (wkV A).fr (visSs p.body 1) (0, 401)).1 = errV (visP p) := run_val _ _
  have e3 : (401 : Int) - ((run (wkV A).fs (wkV A).fr (visSs p.body 1) (0, 401)).2 : Int) = ((visP p).length : Nat) := by
   rw [run_len]; unfold visP; simp; omega
  rw [e3, e2] at e1
  generalize (run (wkV A).fs (wkV A).fr (visSs p.body 1) (0, 401)).2 = k at e1
  by_cases h3 : errV (visP p) = 0
  ·have e4 : afinR C 74 ⟨A.objs ++ [.cells [.d (.int .i64 0)]], A.bufs⟩ ((wkV A).H (errV (visP p)) k) (some (.d (.int .i64 ((visP p).length : Nat)))) = some (.d (.int .i64 ((visP p).length : Nat)), ⟨A.objs ++ [.cells [.d (.int .i64 0)]], A.bufs⟩) := by
    rw [h3]
    exact afinR_obj (c := C) (f := 74) (A0 := ⟨A.objs ++ [.cells [.d (.int .i64 0)]], A.bufs⟩) (v := .d (.int .i64 ((visP p).length : Nat))) rfl rfl
   rw [e4] at e1
   change acl C 74 [Pr.av p, .func (.func 112) [] [.ptr A.objs.length 0], .func (.func 76) [] []] _ = _ at e1
   simp +contextual only [go_sem, acondK_bool, hp.name, h1, h2, params p.params hp.plen hp.params, e1]
   refine leafI ?_
   simp [valS, h1, h2, h3]
  ·have e4 : afinR C 74 ⟨A.objs ++ [.cells [.d (.int .i64 0)]], A.bufs⟩ ((wkV A).H (errV (visP p)) k) (some (.d (.int .i64 ((visP p).length : Nat)))) = some (.d (.int .i64 ((visP p).length : Nat)), (wkV A).H (errV (visP p)) k) := by
    refine afinR_loud rfl rfl ?_
    intro hh
    have h9 := congrArg (fun l : List AObj => l[A.objs.length]?) hh
    simp [wkV, wkH, List.getElem?_take] at h9
    exact h3 h9
   rw [e4] at e1
   change acl C 74 [Pr.av p, .func (.func 112) [] [.ptr A.objs.length 0], .func (.func 76) [] []] _ = _ at e1
   simp only [wkV, wkH, List.append_assoc, List.cons_append, List.nil_append] at e1
   simp +contextual only [go_sem, acondK_bool, hp.name, h1, h2, params p.params hp.plen hp.params, e1]
   refine leafI ?_
   simp [valS, h1, h2, h3]
 ·simp +contextual only [go_sem, acondK_bool, hp.name, h1, h2, params p.params hp.plen hp.params]
  refine leafI ?_
  simp [valS, h1, h2]
def Vis.Ok : Vis → Prop
 | .s x _ => x.Ok
 | .e x _ => x.Ok
theorem visP_len (p : Pr) : (visP p).length ≤ 401 := by unfold visP; simp; omega
end Go.Proofs.YtpbdjgdmhfibmaaGreatDoor
