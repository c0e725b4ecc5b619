/- Operators on one value. -/
import Derived.Test.YtpbdjgdmhfibmaaGreatDoorSeatD
import Derived.Test.YtpbdjgdmhfibmaaGreatDoorGenC
set_option linter.all false
namespace Go.Proofs.YtpbdjgdmhfibmaaGreatDoor
open Go.Abs
attribute [local congr] ite_congr
set_option maxRecDepth 100000
def Oc.at : Oc → Mc → Rs
 | .ok v, m => .ok v.av m
 | .stop s, m => .stop s m
theorem fmt_ext (n : Int) (hn : i64 n) (A : AHeap) : acl C 212 [.d (.int .i64 n), .d (.int .i64 10)] A = some (.d (.str (Lib.itoa n)), A) := by
 rw [acl_ext (c := C) (f := 212) (g := fmtFn Lib.itoa) rfl]
 have h : (10 : Int) = 10 ∧ -9223372036854775808 ≤ n ∧ n ≤ 9223372036854775807 := ⟨rfl, hn.1, hn.2⟩
 change (if _ then _ else _) = _
 rw [if_pos h]
 rfl
theorem formatP (n : Int) (hn : i64 n) (A : AHeap) : acl C 191 [.d (.int .i64 n)] A = some (.d (.str (Lib.itoa n)), A) := by
 have e := fmt_ext n hn A
 rw [kC Tryz.func191 rfl Tryz.ntmps191 Tryz.results191]
 simp only [go_sem, acondK_bool, e]
def gotS (op : Int) (r : Vl) : Oc :=
 if decide (op = 24) = true then .ok (truthV (!decide (r.kind = 0)))
 else if decide (op = 22) = true then (if decide (r.kind = 0) = true then .ok ⟨1, 0, []⟩ else if decide (r.kind = 1) = true then .ok r else .stop (abt 1003))
 else if decide (op = 23) = true then (if decide (r.kind = 0) = true then .ok ⟨2, 0, []⟩ else if decide (r.kind = 2) = true then .ok r else .stop (abt 1003))
 else .ok r
def getterS (m : Mc) (op : Int) (v : Vl) : Rs := if decide (v.kind = 2) = true then (if keyV v.s = true then (match lookE m.own v.s with
    | some r => (gotS op r).at m
    | none => if (!m.fa && !hasN m.fr v.s) = true then .stop (rst v.s) m else (gotS op (getS m.state v.s)).at { m with reads := withS m.reads v.s })
 else .stop (abt 1004) m) else .stop (abt 1009) m
def unS (m : Mc) (op : Int) (v : Vl) : Rs :=
 if decide (op = 9) = true then (if decide (v.kind = 1) = true then (exactS (negS v.n)).at m else .stop (abt 1009) m)
 else if decide (op = 18) = true then (if decide (v.kind = 3) = true then .ok (truthV (decide (v.n = 0))).av m else .stop (abt 1009) m)
 else if decide (op = 20) = true then (if decide (v.kind = 1) = true then (textS (Lib.itoa v.n)).at m else .stop (abt 1009) m)
 else if decide (op = 21) = true then (if decide (v.kind = 2) = true then .ok (⟨1, (v.s.length : Nat), []⟩ : Vl).av m else .stop (abt 1009) m)
 else getterS m op v
theorem un9P {A : AHeap} {x : Ids} {m : Mc} (hS : HS A x m) (v : Vl) (hn : i64 v.n) : Does 167 [.ptr x.m 0, .d (.int .i64 9), v.av] A x (if decide (v.kind = 1) = true then (exactS (negS v.n)).at m else .stop (abt 1009) m) := by
 have m1 := mustT A
 have m2 := mustN A
 cases h : decide (v.kind = 1) with
 | false =>
   simp only [Bool.false_eq_true, if_false]
   obtain ⟨k1, k2⟩ := keep_fin (f := 167) (v := (abt 1009).av) (nice_s _) hS hS (Keep.refl A x)
   refine ⟨_, k1, k2, fun R hR => ?_⟩
   refine pC Tryz.func167 rfl Tryz.ntmps167 Tryz.results167 ?_
   simp only [go_sem, acondK_bool, h, m2, Vl.av]
   exact mustF _ ((post_fin (nice_s _)).2 hR)
 | true =>
   simp only [if_true]
   have p := negP v.n A
   have e := exactP (negS v.n) A
   cases ho : exactS (negS v.n) with
   | ok r =>
     rw [ho] at e; have e := ans_ok e
     obtain ⟨k1, k2⟩ := keep_fin (f := 167) (v := r.av) (nice_v _) hS hS (Keep.refl A x)
     refine ⟨_, ?_, k1, k2⟩
     have f := finR (f := 167) (A := A) (B := A) (nice_v r)
     simp only [Vl.av] at f
     rw [kC Tryz.func167 rfl Tryz.ntmps167 Tryz.results167]
     simp only [go_sem, acondK_bool, h, m1, e, f, Vl.av, p]
   | stop s =>
     rw [ho] at e
     obtain ⟨k1, k2⟩ := keep_fin (f := 167) (v := s.av) (nice_s _) hS hS (Keep.refl A x)
     refine ⟨_, k1, k2, fun R hR => ?_⟩
     refine pC Tryz.func167 rfl Tryz.ntmps167 Tryz.results167 ?_
     simp only [go_sem, acondK_bool, h, m1, ans_no e, Vl.av, p]
     exact e _ ((post_fin (nice_s _)).2 hR)
theorem un18P {A : AHeap} {x : Ids} {m : Mc} (hS : HS A x m) (v : Vl) (hn : i64 v.n) : Does 167 [.ptr x.m 0, .d (.int .i64 18), v.av] A x (if decide (v.kind = 3) = true then .ok (truthV (decide (v.n = 0))).av m else .stop (abt 1009) m) := by
 have m1 := mustT A
 have m2 := mustN A
 cases h : decide (v.kind = 3) with
 | false =>
   simp only [Bool.false_eq_true, if_false]
   obtain ⟨k1, k2⟩ := keep_fin (f := 167) (v := (abt 1009).av) (nice_s _) hS hS (Keep.refl A x)
   refine ⟨_, k1, k2, fun R hR => ?_⟩
   refine pC Tryz.func167 rfl Tryz.ntmps167 Tryz.results167 ?_
   simp only [go_sem, acondK_bool, h, m2, Vl.av]
   exact mustF _ ((post_fin (nice_s _)).2 hR)
 | true =>
   simp only [if_true]
   have t := truthP (decide (v.n = 0)) A
   simp only [Vl.av] at t
   obtain ⟨k1, k2⟩ := keep_fin (f := 167) (v := Vl.av (truthV (decide (v.n = 0)))) (nice_v _) hS hS (Keep.refl A x)
   refine ⟨_, ?_, k1, k2⟩
   have f := finR (f := 167) (A := A) (B := A) (nice_v (truthV (decide (v.n = 0))))
   simp only [Vl.av] at f
   rw [kC Tryz.func167 rfl Tryz.ntmps167 Tryz.results167]
   simp only [go_sem, acondK_bool, h, m1, f, Vl.av, t]
theorem un20P {A : AHeap} {x : Ids} {m : Mc} (hS : HS A x m) (v : Vl) (hn : i64 v.n) : Does 167 [.ptr x.m 0, .d (.int .i64 20), v.av] A x (if decide (v.kind = 1) = true then (textS (Lib.itoa v.n)).at m else .stop (abt 1009) m) := by
 have m1 := mustT A
 have m2 := mustN A
 cases h : decide (v.kind = 1) with
 | false =>
   simp only [Bool.false_eq_true, if_false]
   obtain ⟨k1, k2⟩ := keep_fin (f := 167) (v := (abt 1009).av) (nice_s _) hS hS (Keep.refl A x)
   refine ⟨_, k1, k2, fun R hR => ?_⟩
   refine pC Tryz.func167 rfl Tryz.ntmps167 Tryz.results167 ?_
   simp only [go_sem, acondK_bool, h, m2, Vl.av]
   exact mustF _ ((post_fin (nice_s _)).2 hR)
 | true =>
   simp only [if_true]
   have p := formatP v.n hn A
   have e := textP (Lib.itoa v.n) A
   cases ho : textS (Lib.itoa v.n) with
   | ok r =>
     rw [ho] at e; have e := ans_ok e
     obtain ⟨k1, k2⟩ := keep_fin (f := 167) (v := r.av) (nice_v _) hS hS (Keep.refl A x)
     refine ⟨_, ?_, k1, k2⟩
     have f := finR (f := 167) (A := A) (B := A) (nice_v r)
     simp only [Vl.av] at f
     rw [kC Tryz.func167 rfl Tryz.ntmps167 Tryz.results167]
     simp only [go_sem, acondK_bool, h, m1, e, f, Vl.av, p]
   | stop s =>
     rw [ho] at e
     obtain ⟨k1, k2⟩ := keep_fin (f := 167) (v := s.av) (nice_s _) hS hS (Keep.refl A x)
     refine ⟨_, k1, k2, fun R hR => ?_⟩
     refine pC Tryz.func167 rfl Tryz.ntmps167 Tryz.results167 ?_
     simp only [go_sem, acondK_bool, h, m1, ans_no e, Vl.av, p]
     exact e _ ((post_fin (nice_s _)).2 hR)
theorem un21P {A : AHeap} {x : Ids} {m : Mc} (hS : HS A x m) (v : Vl) (hn : i64 v.n) : Does 167 [.ptr x.m 0, .d (.int .i64 21), v.av] A x (if decide (v.kind = 2) = true then .ok (⟨1, (v.s.length : Nat), []⟩ : Vl).av m else .stop (abt 1009) m) := by
 have m1 := mustT A
 have m2 := mustN A
 cases h : decide (v.kind = 2) with
 | false =>
   simp only [Bool.false_eq_true, if_false]
   obtain ⟨k1, k2⟩ := keep_fin (f := 167) (v := (abt 1009).av) (nice_s _) hS hS (Keep.refl A x)
   refine ⟨_, k1, k2, fun R hR => ?_⟩
   refine pC Tryz.func167 rfl Tryz.ntmps167 Tryz.results167 ?_
   simp only [go_sem, acondK_bool, h, m2, Vl.av]
   exact mustF _ ((post_fin (nice_s _)).2 hR)
 | true =>
   simp only [if_true]
   have t := integerP (v.s.length : Nat) A
   simp only [Vl.av] at t
   obtain ⟨k1, k2⟩ := keep_fin (f := 167) (v := Vl.av (⟨1, (v.s.length : Nat), []⟩ : Vl)) (nice_v _) hS hS (Keep.refl A x)
   refine ⟨_, ?_, k1, k2⟩
   have f := finR (f := 167) (A := A) (B := A) (nice_v (⟨1, (v.s.length : Nat), []⟩ : Vl))
   simp only [Vl.av] at f
   rw [kC Tryz.func167 rfl Tryz.ntmps167 Tryz.results167]
   simp only [go_sem, acondK_bool, h, m1, f, Vl.av, t]
theorem fetch_cases (m : Mc) (op : Int) (v : Vl) (h : decide (v.kind = 2) = true) : (∃ (r : Vl) (m' : Mc), fetchS m v.s = .ok r.av m' ∧ getterS m op v = (gotS op r).at m') ∨ (∃ (s : Stp) (m' : Mc), fetchS m v.s = .stop s m' ∧ getterS m op v = .stop s m') := by
 unfold fetchS getterS
 rw [if_pos h]
 cases keyV v.s with
 | false => exact .inr ⟨abt 1004, m, rfl, rfl⟩
 | true =>
   simp only [if_true]
   cases lookE m.own v.s with
   | some r => exact .inl ⟨r, m, rfl, rfl⟩
   | none =>
     simp only
     cases (!m.fa && !hasN m.fr v.s) with
     | true => exact .inr ⟨rst v.s, m, rfl, rfl⟩
     | false => exact .inl ⟨getS m.state v.s, { m with reads := withS m.reads v.s }, rfl, rfl⟩
theorem getterP {A : AHeap} {x : Ids} {m : Mc} (hS : HS A x m) (op : Int) (v : Vl) (h9 : decide (op = 9) = false) (h18 : decide (op = 18) = false) (h20 : decide (op = 20) = false) (h21 : decide (op = 21) = false)
  (hk : v.s.length ≤ 1099511627776) (hr : m.reads.length ≤ 1099511627776) (hs : m.state.length ≤ 1099511627776) (hf : m.fr.length ≤ 1099511627776) :
  Does 167 [.ptr x.m 0, .d (.int .i64 op), v.av] A x (getterS m op v) := by
 have m1 := mustT A
 have m2 := mustN A
 have fe := fetchP hS v.s hk hr hs hf
 cases h : decide (v.kind = 2) with
 | false =>
   unfold getterS
   simp only [h, Bool.false_eq_true, if_false]
   obtain ⟨k1, k2⟩ := keep_fin (f := 167) (v := (abt 1009).av) (nice_s _) hS hS (Keep.refl A x)
   refine ⟨_, k1, k2, fun R hR => ?_⟩
   refine pC Tryz.func167 rfl Tryz.ntmps167 Tryz.results167 ?_
   simp only [go_sem, acondK_bool, h9, h18, h20, h21, h, m2, Vl.av]
   exact mustF _ ((post_fin (nice_s _)).2 hR)
 | true =>
 rcases fetch_cases m op v h with ⟨r, m', e1, e2⟩ | ⟨s, m', e1, e2⟩
 ·rw [e1] at fe
  obtain ⟨A1, a1, a2, a3⟩ := fe
  simp only [Vl.av] at a1
  rw [e2]
  have t (b : Bool) := truthP b A1
  have i0 := integerP 0 A1
  have t0 : acl C 190 [.d (.str [])] A1 = some (_, A1) := textP [] A1
  simp only [Vl.av] at t i0 t0
  unfold gotS
  cases g24 : decide (op = 24) with
  | true =>
    simp only [g24, Bool.false_eq_true, if_true, if_false]
    obtain ⟨k1, k2⟩ := keep_fin (f := 167) (v := Vl.av (truthV (!decide (r.kind = 0)))) (nice_v _) hS a2 a3
    refine ⟨_, ?_, k1, k2⟩
    have f := finR (f := 167) (A := A) (B := A1) (nice_v (truthV (!decide (r.kind = 0))))
    simp only [Vl.av] at f
    rw [kC Tryz.func167 rfl Tryz.ntmps167 Tryz.results167]
    simp only [go_sem, acondK_bool, h9, h18, h20, h21, h, m1, a1, t, i0, t0, f, Vl.av, g24]
  | false =>
  cases g22 : decide (op = 22) with
  | true =>
    have g23 : decide (op = 23) = false := by simp at g22 ⊢; omega
    cases k0 : decide (r.kind = 0) with
    | true =>
      simp only [g24, g22, g23, k0, Bool.false_eq_true, if_true, if_false]
      obtain ⟨k1, k2⟩ := keep_fin (f := 167) (v := Vl.av (⟨1, 0, []⟩ : Vl)) (nice_v _) hS a2 a3
      refine ⟨_, ?_, k1, k2⟩
      have f := finR (f := 167) (A := A) (B := A1) (nice_v (⟨1, 0, []⟩ : Vl))
      simp only [Vl.av] at f
      rw [kC Tryz.func167 rfl Tryz.ntmps167 Tryz.results167]
      simp only [go_sem, acondK_bool, h9, h18, h20, h21, h, m1, a1, t, i0, t0, f, Vl.av, g24, g22, g23, k0]
    | false =>
    cases kk : decide (r.kind = 1) with
    | true =>
      simp only [g24, g22, g23, k0, kk, Bool.false_eq_true, if_true, if_false]
      obtain ⟨k1, k2⟩ := keep_fin (f := 167) (v := Vl.av r) (nice_v _) hS a2 a3
      refine ⟨_, ?_, k1, k2⟩
      have f := finR (f := 167) (A := A) (B := A1) (nice_v r)
      simp only [Vl.av] at f
      rw [kC Tryz.func167 rfl Tryz.ntmps167 Tryz.results167]
      simp only [go_sem, acondK_bool, h9, h18, h20, h21, h, m1, a1, t, i0, t0, f, Vl.av, g24, g22, g23, k0, kk]
    | false =>
      simp only [g24, g22, g23, k0, kk, Bool.false_eq_true, if_true, if_false]
      obtain ⟨k1, k2⟩ := keep_fin (f := 167) (v := (abt 1003).av) (nice_s _) hS a2 a3
      refine ⟨_, k1, k2, fun R hR => ?_⟩
      refine pC Tryz.func167 rfl Tryz.ntmps167 Tryz.results167 ?_
      simp only [go_sem, acondK_bool, h9, h18, h20, h21, h, m1, a1, Vl.av, g24, g22, g23, k0, kk]
      exact abortP ((post_fin (nice_s _)).2 hR)
  | false =>
  cases g23 : decide (op = 23) with
  | true =>
    cases k0 : decide (r.kind = 0) with
    | true =>
      simp only [g24, g22, g23, k0, Bool.false_eq_true, if_true, if_false]
      obtain ⟨k1, k2⟩ := keep_fin (f := 167) (v := Vl.av (⟨2, 0, []⟩ : Vl)) (nice_v _) hS a2 a3
      refine ⟨_, ?_, k1, k2⟩
      have f := finR (f := 167) (A := A) (B := A1) (nice_v (⟨2, 0, []⟩ : Vl))
      simp only [Vl.av] at f
      rw [kC Tryz.func167 rfl Tryz.ntmps167 Tryz.results167]
      simp only [go_sem, acondK_bool, h9, h18, h20, h21, h, m1, a1, t, i0, t0, f, Vl.av, g24, g22, g23, k0]
    | false =>
    cases kk : decide (r.kind = 2) with
    | true =>
      simp only [g24, g22, g23, k0, kk, Bool.false_eq_true, if_true, if_false]
      obtain ⟨k1, k2⟩ := keep_fin (f := 167) (v := Vl.av r) (nice_v _) hS a2 a3
      refine ⟨_, ?_, k1, k2⟩
      have f := finR (f := 167) (A := A) (B := A1) (nice_v r)
      simp only [Vl.av] at f
      rw [kC Tryz.func167 rfl Tryz.ntmps167 Tryz.results167]
      simp only [go_sem, acondK_bool, h9, h18, h20, h21, h, m1, a1, t, i0, t0, f, Vl.av, g24, g22, g23, k0, kk]
    | false =>
      simp only [g24, g22, g23, k0, kk, Bool.false_eq_true, if_true, if_false]
      obtain ⟨k1, k2⟩ := keep_fin (f := 167) (v := (abt 1003).av) (nice_s _) hS a2 a3
      refine ⟨_, k1, k2, fun R hR => ?_⟩
      refine pC Tryz.func167 rfl Tryz.ntmps167 Tryz.results167 ?_
      simp only [go_sem, acondK_bool, h9, h18, h20, h21, h, m1, a1, Vl.av, g24, g22, g23, k0, kk]
      exact abortP ((post_fin (nice_s _)).2 hR)
  | false =>
  simp only [g24, g22, g23, Bool.false_eq_true, if_true, if_false]
  obtain ⟨k1, k2⟩ := keep_fin (f := 167) (v := Vl.av r) (nice_v _) hS a2 a3
  refine ⟨_, ?_, k1, k2⟩
  have f := finR (f := 167) (A := A) (B := A1) (nice_v r)
  simp only [Vl.av] at f
  rw [kC Tryz.func167 rfl Tryz.ntmps167 Tryz.results167]
  simp only [go_sem, acondK_bool, h9, h18, h20, h21, h, m1, a1, t, i0, t0, f, Vl.av, g24, g22, g23]
 ·rw [e1] at fe
  obtain ⟨A1, a2, a3, a1⟩ := fe
  rw [e2]
  obtain ⟨k1, k2⟩ := keep_fin (f := 167) (v := s.av) (nice_s _) hS a2 a3
  refine ⟨_, k1, k2, fun R hR => ?_⟩
  have no : acl C 192 [.ptr x.m 0, .d (.str v.s)] A = none := pcl_no pxNo (a1 (fun _ _ => True) trivial)
  refine pC Tryz.func167 rfl Tryz.ntmps167 Tryz.results167 ?_
  simp only [go_sem, acondK_bool, h9, h18, h20, h21, h, m1, no, Vl.av]
  exact a1 _ ((post_fin (nice_s _)).2 hR)
theorem unP {A : AHeap} {x : Ids} {m : Mc} (hS : HS A x m) (op : Int) (v : Vl) (hn : i64 v.n) (hk : v.s.length ≤ 1099511627776) (hr : m.reads.length ≤ 1099511627776) (hs : m.state.length ≤ 1099511627776) (hf : m.fr.length ≤ 1099511627776) :
  Does 167 [.ptr x.m 0, .d (.int .i64 op), v.av] A x (unS m op v) := by
 unfold unS
 cases h9 : decide (op = 9) with
 | true => obtain rfl := of_decide_eq_true h9; exact un9P hS v hn
 | false =>
 cases h18 : decide (op = 18) with
 | true => obtain rfl := of_decide_eq_true h18; exact un18P hS v hn
 | false =>
 cases h20 : decide (op = 20) with
 | true => obtain rfl := of_decide_eq_true h20; exact un20P hS v hn
 | false =>
 cases h21 : decide (op = 21) with
 | true => obtain rfl := of_decide_eq_true h21; exact un21P hS v hn
 | false => exact getterP hS op v h9 h18 h20 h21 hk hr hs hf
inductive Rv where
 | ok (v : Vl) (m : Mc)
 | stop (s : Stp) (m : Mc)
def Rv.rs : Rv → Rs
 | .ok v m => .ok v.av m
 | .stop s m => .stop s m
def Oc.atV : Oc → Mc → Rv
 | .ok v, m => .ok v m
 | .stop s, m => .stop s m
theorem atV_rs (o : Oc) (m : Mc) : (o.atV m).rs = o.at m := by cases o <;> rfl
def getterV (m : Mc) (op : Int) (v : Vl) : Rv := if decide (v.kind = 2) = true then (if keyV v.s = true then (match lookE m.own v.s with
    | some r => (gotS op r).atV m
    | none => if (!m.fa && !hasN m.fr v.s) = true then .stop (rst v.s) m else (gotS op (getS m.state v.s)).atV { m with reads := withS m.reads v.s })
 else .stop (abt 1004) m) else .stop (abt 1009) m
theorem getterV_rs (m : Mc) (op : Int) (v : Vl) : (getterV m op v).rs = getterS m op v := by
 unfold getterV getterS
 cases decide (v.kind = 2) with
 | false => rfl
 | true =>
   simp only [if_true]
   cases keyV v.s with
   | false => rfl
   | true =>
     simp only [if_true]
     cases lookE m.own v.s with
     | some r => exact atV_rs _ _
     | none =>
       simp only
       cases (!m.fa && !hasN m.fr v.s) with
       | true => rfl
       | false => exact atV_rs _ _
def unV (m : Mc) (op : Int) (v : Vl) : Rv :=
 if decide (op = 9) = true then (if decide (v.kind = 1) = true then (exactS (negS v.n)).atV m else .stop (abt 1009) m)
 else if decide (op = 18) = true then (if decide (v.kind = 3) = true then .ok (truthV (decide (v.n = 0))) m else .stop (abt 1009) m)
 else if decide (op = 20) = true then (if decide (v.kind = 1) = true then (textS (Lib.itoa v.n)).atV m else .stop (abt 1009) m)
 else if decide (op = 21) = true then (if decide (v.kind = 2) = true then .ok (⟨1, (v.s.length : Nat), []⟩ : Vl) m else .stop (abt 1009) m)
 else getterV m op v
theorem ite_rs {p : Prop} [Decidable p] {a b : Rv} : (if p then a else b).rs = if p then a.rs else b.rs := by split <;> rfl
theorem unV_rs (m : Mc) (op : Int) (v : Vl) : (unV m op v).rs = unS m op v := by
 have r1 : ∀ v m, (Rv.ok v m).rs = Rs.ok v.av m := fun _ _ => rfl
 have r2 : ∀ s m, (Rv.stop s m).rs = Rs.stop s m := fun _ _ => rfl
 unfold unV unS
 simp only [ite_rs, atV_rs, getterV_rs, r1, r2]
def apV (op : Int) : List Vl → Mc → Rv
 | [v], m => unV m op v
 | [v, w], m => (binSV op v w).atV m
 | _, m => .stop (abt 1009) m
inductive Rl where
 | ok (l : List Vl) (m : Mc)
 | stop (s : Stp) (m : Mc)
mutual
def evE : E → Mc → Rv
 | .mk op n s args, m =>
   if decide (op = 1) = true then .ok ⟨1, n, []⟩ m else if decide (op = 2) = true then .ok ⟨2, 0, s⟩ m
   else if decide (op = 3) = true then (match lookE m.vars s with
    | some v => .ok v m
    | none => .stop (abt 1009) m)
   else match evL args m with
    | .ok vs m' => apV op vs m'
    | .stop z m' => .stop z m'
def evL : List E → Mc → Rl
 | [], m => .ok [] m
 | e :: l, m => match evE e m with
   | .ok v m1 => (match evL l m1 with
     | .ok vs m2 => .ok (v :: vs) m2
     | .stop z m2 => .stop z m2)
   | .stop z m1 => .stop z m1
end
section
variable {F : AF} {ks : List KF} {body : Code} {env : AEnv} {A : AHeap}
theorem loop_good {G : Option (AV × AHeap) → Prop} {σ : Type} (mk : σ → AEnv) (H : σ → AHeap) (m : σ → Nat) (I : σ → Prop) (s0 : σ)
  (henv : env = mk s0) (hA : A = H s0) (h0 : I s0)
  (h : ∀ s, I s → (∀ s', m s' < m s → I s' → G (cloop F ks body (mk s') (H s'))) → G (cek F (.loop body :: ks) body (mk s) (H s))) :
  G (cloop F ks body env A) := by
 have key : ∀ (n : Nat) (s : σ), m s < n → I s → G (cloop F ks body (mk s) (H s)) := by
  intro n
  induction n with
  | zero => intro s hs; omega
  | succ n ih =>
    intro s hs hI
    exact h s hI fun s' hlt hI' => ih s' (by omega) hI'
 rw [henv, hA]
 exact key _ s0 (Nat.lt_succ_self _) h0
variable {p : PF} {x : Code}
theorem p_loop_meas {σ : Type} (mk : σ → AEnv) (H : σ → AHeap) (m : σ → Nat) (I : σ → Prop) (s0 : σ)
  (henv : atrim p.F.c p.F.f (firstRegion x) env = mk s0) (hA : A = H s0) (h0 : I s0)
  (h : ∀ s, I s → (∀ s' env', m s' < m s → I s' → atrim p.F.c p.F.f (firstRegion x) env' = mk s' → pek p ks (.loop x) env' (H s')) → pek p (.loop x :: ks) x (mk s) (H s)) :
  pek p ks (.loop x) env A := by
 have key : ∀ (n : Nat) (s : σ) (env' : AEnv), m s < n → I s → atrim p.F.c p.F.f (firstRegion x) env' = mk s → pek p ks (.loop x) env' (H s) := by
  intro n
  induction n with
  | zero => intro s env' hs; omega
  | succ n ih =>
    intro s env' hs hI he
    rw [p_loop, he]
    exact h s hI fun s' e' hlt hI' he' => ih s' e' (by omega) hI' he'
 rw [hA]
 exact key _ s0 env (Nat.lt_succ_self _) h0 henv
end
theorem does_ok {f : FuncId} {args : List AV} {A : AHeap} {x : Ids} {v : AV} {m : Mc} : Does f args A x (.ok v m) = ∃ A', acl C f args A = some (v, A') ∧ HS A' x m ∧ Keep A A' x := rfl
theorem does_stop {f : FuncId} {args : List AV} {A : AHeap} {x : Ids} {s : Stp} {m : Mc} (h : pcl C px f args A (fun y B => y = s.av ∧ HS B x m ∧ Keep A B x)) : Does f args A x (.stop s m) := by
 obtain ⟨y, B, hp, rfl, h1, h2⟩ := h
 exact ⟨B, h1, h2, fun R hR => ⟨_, B, hp, hR⟩⟩
end Go.Proofs.YtpbdjgdmhfibmaaGreatDoor
namespace Go.Proofs.YtpbdjgdmhfibmaaGreatDoor
open Go.Abs
structure VOk (v : Vl) : Prop where
 kind : i64 v.kind
 n : i64 v.n
 s : v.s.length ≤ 64
structure MOk (m : Mc) (n : Nat) : Prop where
 vars : ∀ k v, lookE m.vars k = some v → VOk v
 own : ∀ k v, lookE m.own k = some v → VOk v
 get : ∀ k, VOk (getS m.state k)
 state : m.state.length ≤ 1099511627776
 fr : m.fr.length ≤ 1099511627776
 reads : m.reads.length ≤ n
theorem MOk.le {m : Mc} {a b : Nat} (h : MOk m a) (hl : a ≤ b) : MOk m b := ⟨h.vars, h.own, h.get, h.state, h.fr, Nat.le_trans h.reads hl⟩
def Rv.all (n : Nat) : Rv → Prop
 | .ok v m => VOk v ∧ MOk m n
 | .stop _ m => MOk m n
def Oc.all : Oc → Prop
 | .ok v => VOk v
 | .stop _ => True
theorem i64_0 : i64 0 := by unfold i64; omega
theorem i64_neg (a : Int) : i64 (negS a).1 := by
 unfold negS; split
 ·exact i64_0
 ·exact i64_wrap _
theorem i64_add (a b : Int) : i64 (addS a b).1 := by
 unfold addS; split
 ·exact i64_0
 ·exact i64_wrap _
theorem i64_sub (a b : Int) : i64 (subS a b).1 := by
 unfold subS; split
 ·exact i64_0
 ·exact i64_wrap _
theorem i64_mul (a b : Int) : i64 (mulS a b).1 := by
 unfold mulS
 repeat' split
 all_goals first | exact i64_0 | exact i64_wrap _ | exact i64_neg _
theorem i64_div (a b : Int) : i64 (divS a b).1 := by
 unfold divS
 repeat' split
 all_goals first | exact i64_0 | exact i64_wrap _ | exact i64_neg _
theorem i64_tmod {a : Int} (b : Int) (h : i64 a) : i64 (a.tmod b) := by
 unfold i64 at *
 have h1 := Int.natAbs_tmod a b
 have h2 := Nat.mod_le a.natAbs b.natAbs
 have h3 := Int.tmod_nonneg (a := a) b
 by_cases hp : 0 ≤ a
 ·have := h3 hp; omega
 ·have : (-a).tmod b = -(a.tmod b) := Int.neg_tmod ..
  have h4 := Int.tmod_nonneg (a := -a) b (by omega)
  omega
theorem i64_mod {a : Int} (b : Int) (h : i64 a) : i64 (modS a b).1 := by
 unfold modS
 repeat' split
 all_goals first | exact i64_0 | exact i64_wrap _ | exact i64_tmod b h
theorem truth_ok (b : Bool) : VOk (truthV b) := by
 refine ⟨by unfold truthV i64; simp, ?_, by simp [truthV]⟩
 unfold truthV i64
 cases b <;> simp
theorem exact_ok {r : Int × Int} (h : i64 r.1) : (exactS r).all := by
 unfold exactS
 split
 ·exact ⟨by unfold i64; simp, h, by simp⟩
 ·split <;> trivial
theorem text_ok (s : Bytes) : (textS s).all := by
 unfold textS
 split
 ·trivial
 ·rename_i h
  exact ⟨by unfold i64; simp, i64_0, by simp at h; simpa using (by omega : s.length ≤ 64)⟩
theorem got_ok {op : Int} {r : Vl} (h : VOk r) : (gotS op r).all := by
 unfold gotS
 repeat' split
 all_goals first | exact truth_ok _ | exact h | trivial | exact ⟨by unfold i64; simp, i64_0, by simp⟩
theorem at_all {o : Oc} {m : Mc} {n : Nat} (ho : o.all) (hm : MOk m n) : (o.atV m).all n := by
 cases o with
 | ok v => exact ⟨ho, hm⟩
 | stop s => exact hm
theorem unV_ok {m : Mc} {n : Nat} (op : Int) {v : Vl} (hm : MOk m n) (hv : VOk v) : (unV m op v).all (n + 1) := by
 have h1 := hm.le (Nat.le_succ n)
 unfold unV
 split
 ·split
  ·exact at_all (exact_ok (i64_neg _)) h1
  ·exact h1
 split
 ·split
  ·exact ⟨truth_ok _, h1⟩
  ·exact h1
 split
 ·split
  ·exact at_all (text_ok _) h1
  ·exact h1
 split
 ·split
  ·have := hv.s
   exact ⟨⟨by unfold i64; simp, by unfold i64; simp only; omega, by simp⟩, h1⟩
  ·exact h1
 unfold getterV
 split
 ·split
  ·split
   ·rename_i r hr
    exact at_all (got_ok (hm.own _ _ hr)) h1
   ·split
    ·exact h1
    ·refine at_all (got_ok (hm.get _)) ⟨hm.vars, hm.own, hm.get, hm.state, hm.fr, ?_⟩
     have := withS_len m.reads v.s
     have := hm.reads
     simp only; omega
  ·exact h1
 ·exact h1
theorem cmp_ok (op : Int) (a b : Vl) : (compareS op a b).all := by
 unfold compareS
 split
 ·exact truth_ok _
 ·trivial
theorem arith_ok (op : Int) {a : Int} (b : Int) (ha : i64 a) : (arithS op a b).all := by
 unfold arithS
 refine exact_ok ?_
 cases decide (op = 4) with
 | true => rw [if_pos rfl]; exact i64_add a b
 | false =>
 rw [if_neg Bool.false_ne_true]
 cases decide (op = 5) with
 | true => rw [if_pos rfl]; exact i64_sub a b
 | false =>
 rw [if_neg Bool.false_ne_true]
 cases decide (op = 6) with
 | true => rw [if_pos rfl]; exact i64_mul a b
 | false =>
 rw [if_neg Bool.false_ne_true]
 cases decide (op = 7) with
 | true => rw [if_pos rfl]; exact i64_div a b
 | false => rw [if_neg Bool.false_ne_true]; exact i64_mod b ha
theorem bin_ok (op : Int) {a b : Vl} (ha : VOk a) (hb : VOk b) : (binSV op a b).all := by
 unfold binSV
 split
 ·split
  ·exact arith_ok op b.n ha.n
  ·trivial
 split
 ·split
  ·exact truth_ok _
  ·trivial
 split
 ·split
  ·exact truth_ok _
  ·trivial
 split
 ·split
  ·exact text_ok _
  ·trivial
 ·exact cmp_ok op a b
theorem ap_ok {m : Mc} {n : Nat} (op : Int) {vs : List Vl} (hm : MOk m n) (hv : ∀ v ∈ vs, VOk v) : (apV op vs m).all (n + 1) := by
 match vs, hv with
 | [], _ => exact hm.le (Nat.le_succ n)
 | [v], hv => exact unV_ok op hm (hv v (by simp))
 | [v, w], hv => exact at_all (bin_ok op (hv v (by simp)) (hv w (by simp))) (hm.le (Nat.le_succ n))
 | _ :: _ :: _ :: _, _ => exact hm.le (Nat.le_succ n)
mutual
def litE : E → Prop
 | .mk _ n s args => i64 n ∧ s.length ≤ 64 ∧ litL args
def litL : List E → Prop
 | [] => True
 | e :: l => litE e ∧ litL l
end
mutual
def nodE : E → Nat
 | .mk _ _ _ args => nodL args + 1
def nodL : List E → Nat
 | [] => 0
 | e :: l => nodE e + nodL l
end
def Rl.all (n : Nat) : Rl → Prop
 | .ok vs m => (∀ v ∈ vs, VOk v) ∧ MOk m n
 | .stop _ m => MOk m n
mutual
theorem ev_ok : ∀ (e : E) (m : Mc) (n : Nat), litE e → MOk m n → (evE e m).all (n + nodE e)
 | .mk op k s args, m, n, hl, hm => by
   simp only [litE] at hl
   simp only [evE, nodE]
   have h1 := hm.le (Nat.le_add_right n (nodL args + 1))
   split
   ·exact ⟨⟨by unfold i64; simp, hl.1, by simp⟩, h1⟩
   split
   ·exact ⟨⟨by unfold i64; simp, i64_0, hl.2.1⟩, h1⟩
   split
   ·split
    ·rename_i v hv
     exact ⟨hm.vars _ _ hv, h1⟩
    ·exact h1
   have h2 := evL_ok args m n hl.2.2 hm
   split
   ·rename_i vs m' he
    rw [he] at h2
    exact ap_ok op h2.2 h2.1
   ·rename_i z m' he
    rw [he] at h2
    exact h2.le (by omega)
theorem evL_ok : ∀ (l : List E) (m : Mc) (n : Nat), litL l → MOk m n → (evL l m).all (n + nodL l)
 | [], m, n, _, hm => ⟨by simp, hm⟩
 | e :: l, m, n, hl, hm => by
   simp only [litL] at hl
   simp only [evL, nodL]
   have h1 := ev_ok e m n hl.1 hm
   split
   ·rename_i v m1 he
    rw [he] at h1
    have h2 := evL_ok l m1 (n + nodE e) hl.2 h1.2
    split
    ·rename_i vs m2 he2
     rw [he2] at h2
     refine ⟨?_, h2.2.le (by omega)⟩
     intro w hw
     rcases List.mem_cons.1 hw with rfl | hw
     ·exact h1.1
     ·exact h2.1 w hw
    ·rename_i z m2 he2
     rw [he2] at h2
     exact MOk.le h2 (by omega)
   ·rename_i z m1 he
    rw [he] at h1
    exact MOk.le h1 (by omega)
end
attribute [local congr] ite_congr
set_option maxRecDepth 100000
def avE (op n : Int) (s : Bytes) (args : List E) : AV := .agg [.d (.int .i64 op), .d (.int .i64 n), .d (.str s), .d (.slice (args.map E.row))]
theorem ev1 {A : AHeap} {x : Ids} {m : Mc} (hS : HS A x m) (n : Int) (s : Bytes) (args : List E) : Does 123 [.ptr x.m 0, avE 1 n s args] A x (.ok (⟨1, n, []⟩ : Vl).av m) := by
 obtain ⟨k1, k2⟩ := keep_fin (f := 123) (v := Vl.av ⟨1, n, []⟩) (nice_v _) hS hS (Keep.refl A x)
 refine ⟨_, ?_, k1, k2⟩
 have f := finR (f := 123) (A := A) (B := A) (nice_v ⟨1, n, []⟩)
 have i := integerP n A
 simp only [Vl.av] at f i
 rw [k_call_own (c := C) (f := 123) rfl Tryz.func123 rfl (ok 123 (by kernel_rfl)) rfl Tryz.ntmps123 Tryz.results123 (by simp)]
 simp only [go_sem, acondK_bool, i, f, Vl.av, avE]
theorem ev2 {A : AHeap} {x : Ids} {m : Mc} (hS : HS A x m) (n : Int) (s : Bytes) (args : List E) : Does 123 [.ptr x.m 0, avE 2 n s args] A x (.ok (⟨2, 0, s⟩ : Vl).av m) := by
 obtain ⟨k1, k2⟩ := keep_fin (f := 123) (v := Vl.av ⟨2, 0, s⟩) (nice_v _) hS hS (Keep.refl A x)
 refine ⟨_, ?_, k1, k2⟩
 have f := finR (f := 123) (A := A) (B := A) (nice_v ⟨2, 0, s⟩)
 simp only [Vl.av] at f
 rw [k_call_own (c := C) (f := 123) rfl Tryz.func123 rfl (ok 123 (by kernel_rfl)) rfl Tryz.ntmps123 Tryz.results123 (by simp)]
 simp only [go_sem, acondK_bool, f, Vl.av, avE]
theorem ev3 {A : AHeap} {x : Ids} {m : Mc} (hS : HS A x m) (n : Int) (s : Bytes) (args : List E) : Does 123 [.ptr x.m 0, avE 3 n s args] A x (match lookE m.vars s with
  | some v => .ok v.av m
  | none => .stop (abt 1009) m) := by
 have h := hS
 obtain ⟨ov, rv, wv, h⟩ := h
 have hc := h.cell
 have hv := h.vars
 unfold mcell at hc
 have fo := afind_mapE s m.vars
 have m1 := mustT A
 have m2 := mustN A
 cases h2 : lookE m.vars s with
 | some v =>
   rw [h2] at fo
   simp only [Option.map_some, Vl.av] at fo
   obtain ⟨k1, k2⟩ := keep_fin (f := 123) (v := v.av) (nice_v _) hS hS (Keep.refl A x)
   refine ⟨_, ?_, k1, k2⟩
   have f := finR (f := 123) (A := A) (B := A) (nice_v v)
   simp only [Vl.av] at f
   rw [k_call_own (c := C) (f := 123) rfl Tryz.func123 rfl (ok 123 (by kernel_rfl)) rfl Tryz.ntmps123 Tryz.results123 (by simp)]
   simp only [go_sem, acondK_bool, k_drawn_t, hc, hv, fo, m1, avE]
   refine Eq.trans ctB ?_
   simp only [go_sem, acondK_bool, m1, f, Vl.av]
 | none =>
   rw [h2] at fo
   simp only [Option.map_none] at fo
   obtain ⟨k1, k2⟩ := keep_fin (f := 123) (v := (abt 1009).av) (nice_s _) hS hS (Keep.refl A x)
   refine ⟨_, k1, k2, fun R hR => ?_⟩
   refine k_pan_own (c := C) (f := 123) rfl Tryz.func123 rfl (ok 123 (by kernel_rfl)) rfl Tryz.ntmps123 Tryz.results123 (by simp) ?_
   simp only [go_sem, acondK_bool, avE]
   refine p_drawn_r ?_
   simp only [go_sem, acondK_bool, hc, hv, fo]
   refine prE_ok (by repeat (first | exact MLe.nil | apply MLe.qq | apply MLe.q | apply MLe.o | apply MLe.b | apply MLe.l)) (by kernel_rfl) ?_
   simp only [go_sem, acondK_bool, m2]
   exact mustF _ ((post_fin (nice_s _)).2 hR)
theorem app_row {B : AHeap} {t7 : AV} {rows : List (List Dat)} {r : List Dat} (hr : r.length = 3) (h : ownS B.bufs t7 69 3 rows) (hl : rows.length + 1 ≤ 4194304) :
  ∃ v' bs, aappend Tryz.prog 69 3 B t7 [r] = some (v', ⟨B.objs, bs⟩) ∧ ownS bs v' 69 3 (rows ++ [r]) ∧
    (∀ w e sz rows', ownS B.bufs w e sz rows' → tokF w t7 → ownS bs w e sz rows' ∧ tokF w v') ∧
    (∀ t b, B.bufs[t]? = some b → (∀ n, t7 ≠ .own t n) → bs[t]? = some b) ∧ (∀ t n, v' = .own t n → (∃ n', t7 = .own t n') ∨ B.bufs.length ≤ t) ∧ B.bufs.length ≤ bs.length ∧ v'.cells = [v'] ∧ allOne [v'] = true := by
 have room : aroomT Tryz.prog 69 3 = true ∧ ([r].all fun r => r.length == 3) = true := ⟨by kernel_rfl, by simp [hr]⟩
 rcases h with ⟨rfl, h⟩ | ⟨tok, rfl, hb⟩
 ·subst h
  refine ⟨.own B.bufs.length 1, B.bufs ++ [⟨69, 3, [r], 0⟩], ?_, ?_, fun w e sz rows hw _ => ⟨hw.app _, tokF_new hw⟩, fun t b hb _ => ?_, fun t n he => ?_, by simp, rfl, rfl⟩
  ·unfold aappend
   rw [if_pos room]
   simp
  ·exact .inr ⟨B.bufs.length, rfl, by simp⟩
  ·rw [List.getElem?_append_left (List.getElem?_eq_some_iff.1 hb).1, hb]
  ·cases he; exact .inr (Nat.le_refl _)
 ·have lt := (List.getElem?_eq_some_iff.1 hb).1
  refine ⟨.own tok (rows.length + 1), B.bufs.set tok ⟨69, 3, rows ++ [r], 0⟩, ?_, ?_, fun w e sz rows hw hd => ⟨hw.set hd, hd.len⟩, fun t b hb' hn => ?_, fun t n he => ?_, by simp, rfl, rfl⟩
  ·unfold aappend
   rw [if_pos room]
   simp only [hb]
   rw [if_pos (by simpa using hl)]
   rfl
  ·exact .inr ⟨tok, by simp, by simp [lt]⟩
  ·have : tok ≠ t := fun he => hn rows.length (by rw [he])
   rw [List.getElem?_set_ne this, hb']
  ·cases he; exact .inl ⟨_, rfl⟩
theorem HS.bufs {B : AHeap} {x : Ids} {m : Mc} {bs : List ABuf} (h : HS B x m) (hb : ∀ t b, B.bufs[t]? = some b → used B x t → bs[t]? = some b) : HS ⟨B.objs, bs⟩ x m := by
 obtain ⟨ov, rv, wv, h⟩ := h
 have key : ∀ {v : AV} {e sz : Nat} {rows : List (List Dat)}, (∀ t n, v = .own t n → .own t n ∈ mcell x ov rv wv m) → ownS B.bufs v e sz rows → ownS bs v e sz rows := by
  intro v e sz rows hm h1
  rcases h1 with ⟨h1, h2⟩ | ⟨tok, h1, h2⟩
  ·exact .inl ⟨h1, h2⟩
  ·exact .inr ⟨tok, h1, hb tok _ h2 ⟨_, h.cell, _, hm _ _ h1⟩⟩
 refine ⟨ov, rv, wv, ⟨h.cell, h.vars, h.own, key (fun t n e => ?_) h.out, key (fun t n e => ?_) h.rd, key (fun t n e => ?_) h.wr, h.d1, h.d2, h.d3, h.n1, h.n2, h.n3⟩⟩
 all_goals simp [mcell, e]
structure Mine (A B : AHeap) (x : Ids) (t7 : AV) (vs : List Vl) : Prop where
 own : ownS B.bufs t7 69 3 (vs.map Vl.row)
 new : ∀ t n, t7 = .own t n → ¬ used B x t ∧ A.bufs.length ≤ t
theorem Mine.step {A B B1 : AHeap} {x : Ids} {t7 : AV} {vs : List Vl} (h : Mine A B x t7 vs) (hk : Keep B B1 x) : Mine A B1 x t7 vs := by
 refine ⟨?_, fun t n he => ?_⟩
 ·rcases h.own with h1 | ⟨tok, h1, h2⟩
  ·exact .inl h1
  ·exact .inr ⟨tok, h1, (hk.bufs tok _ h2 (h.new _ _ h1).1).1⟩
 ·rcases h.own with ⟨h1, _⟩ | ⟨tok, h1, h2⟩
  ·rw [h1] at he; cases he
  ·have := h.new _ _ h1
   rw [h1] at he; cases he
   exact ⟨(hk.bufs _ _ h2 this.1).2, this.2⟩
theorem Mine.push {A B : AHeap} {x : Ids} {t7 : AV} {vs : List Vl} {m : Mc} (h : Mine A B x t7 vs) (hB : HS B x m) (hk : Keep A B x) (v : Vl) (hl : vs.length + 1 ≤ 4194304) :
  ∃ v' bs, aappend Tryz.prog 69 3 B t7 [v.row] = some (v', ⟨B.objs, bs⟩) ∧ Mine A ⟨B.objs, bs⟩ x v' (vs ++ [v]) ∧ HS ⟨B.objs, bs⟩ x m ∧ Keep A ⟨B.objs, bs⟩ x ∧ v'.cells = [v'] ∧ allOne [v'] = true := by
 obtain ⟨v', bs, h1, h2, h3, h4, h5, hlen, h6, h7⟩ := app_row (r := v.row) rfl h.own (by simpa using hl)
 have us : ∀ t, used ⟨B.objs, bs⟩ x t ↔ used B x t := fun t => Iff.rfl
 refine ⟨v', bs, h1, ⟨by simpa using h2, fun t n he => ?_⟩, hB.bufs (fun t b hb hu => h4 t b hb (fun n he => (h.new t n he).1 hu)), ⟨hk.objs, hk.len, Nat.le_trans hk.blen hlen, fun t b hb hn => ?_⟩, h6, h7⟩
 ·rcases h5 t n he with ⟨n', hn'⟩ | hle
  ·exact ⟨(h.new t n' hn').1, (h.new t n' hn').2⟩
  ·exact ⟨fun hu => by have := hB.tok ((us t).1 hu); omega, Nat.le_trans hk.blen hle⟩
 ·obtain ⟨k1, k2⟩ := hk.bufs t b hb hn
  refine ⟨h4 t b k1 (fun n he => ?_), k2⟩
  have := (h.new t n he).2
  have := (List.getElem?_eq_some_iff.1 hb).1
  omega
theorem vown_idx {A : AHeap} {tok i : Nat} {l : List Vl} (hb : A.bufs[tok]? = some ⟨69, 3, l.map Vl.row, 0⟩) (hi : i < l.length) : aindex 3 A (i : Nat) (.own tok l.length) = some (.eptr tok l.length i 0) := by
 simp only [aindex, hb, List.length_map, Int.toNat_natCast]
 simp [hi]
theorem vown_ld {A : AHeap} {tok i : Nat} {l : List Vl} {v : Vl} (hb : A.bufs[tok]? = some ⟨69, 3, l.map Vl.row, 0⟩) (hv : l[i]? = some v) : aload A 3 true (.eptr tok l.length i 0) = some v.av := by
 have h2 : (l.map Vl.row)[i]? = some v.row := by simp [hv]
 simp only [aload, hb, List.length_map, h2, Nat.zero_le, and_self, if_true]
 rfl
def EvalsTo (x : Ids) (e : E) : Prop := ∀ (B : AHeap) (mi : Mc) (k : Nat), HS B x mi → MOk mi k → k + nodE e ≤ 1099511627776 → Does 123 [.ptr x.m 0, E.av e] B x (evE e mi).rs
structure ArgI (A : AHeap) (x : Ids) (n0 : Nat) (args : List E) (m1 : Mc) (vsF : List Vl) (suf : List E) (vs : List Vl) (mi : Mc) (t7 : AV) (B : AHeap) : Prop where
 pre : ∃ pre, args = pre ++ suf ∧ pre.length = vs.length ∧ MOk mi (n0 + nodL pre)
 hs : HS B x mi
 keep : Keep A B x
 mine : Mine A B x t7 vs
 ev : ∃ ws, evL suf mi = .ok ws m1 ∧ vsF = vs ++ ws
theorem nodL_app : ∀ (a b : List E), nodL (a ++ b) = nodL a + nodL b
 | [], b => by simp [nodL]
 | e :: a, b => by simp only [List.cons_append, nodL, nodL_app a b]; omega
theorem litL_mem : ∀ {l : List E} {e : E}, litL l → e ∈ l → litE e
 | x :: l, e, h, hm => by
   simp only [litL] at h
   rcases List.mem_cons.1 hm with rfl | hm
   ·exact h.1
   ·exact litL_mem h.2 hm
theorem evN_ok {A : AHeap} {x : Ids} {m m1 m2 : Mc} {n0 : Nat} (hS : HS A x m) (hm : MOk m n0) (op n : Int) (s : Bytes) (args : List E) (hlen : args.length ≤ 4194303) (hlit : litL args) (hb : n0 + nodL args + 1 ≤ 1099511627776)
  (h1 : decide (op = 1) = false) (h2 : decide (op = 2) = false) (h3 : decide (op = 3) = false) (ih : ∀ e ∈ args, EvalsTo x e) {vs : List Vl} {v : Vl} (he : evL args m = .ok vs m1) (ha : apV op vs m1 = .ok v m2) :
  Does 123 [.ptr x.m 0, avE op n s args] A x (.ok v.av m2) := by
 rw [does_ok]
 have hG : ∃ G : Option (AV × AHeap) → Prop, G = fun r => ∃ A', r = some (v.av, A') ∧ HS A' x m2 ∧ Keep A A' x := ⟨_, rfl⟩
 obtain ⟨G, hG⟩ := hG
 suffices h : G (acl C 123 [.ptr x.m 0, avE op n s args] A) by rw [hG] at h; exact h
 rw [k_call_own (c := C) (f := 123) rfl Tryz.func123 rfl (ok 123 (by kernel_rfl)) rfl Tryz.ntmps123 Tryz.results123 (by simp)]
 simp only [go_sem, acondK_bool, h1, h2, h3, avE]
 refine loop_good (fun σ : List E × List Vl × Mc × AV × AHeap => [(7, .v σ.2.2.2.1), (40, .v (.d (.int .i64 (σ.2.1.length : Nat)))), (0, .v (.ptr x.m 0)), (38, .v (.d (.slice (args.map E.row)))), (3, .box [.d (.int .i64 op), .d (.int .i64 n), .d (.str s), .d (.slice (args.map E.row))]), (4, .box [.d (.int .i64 0), .d (.int .i64 0), .d (.str [])]), (39, .v (.d (.int .i64 (args.length : Nat))))])
  (fun σ => σ.2.2.2.2) (fun σ => σ.1.length) (fun σ => ArgI A x n0 args m1 vs σ.1 σ.2.1 σ.2.2.1 σ.2.2.2.1 σ.2.2.2.2) (args, [], m, .nilS, A) rfl rfl
  ⟨⟨[], rfl, rfl, by simpa [nodL] using hm⟩, hS, Keep.refl A x, ⟨.inl ⟨rfl, rfl⟩, fun t k e => by cases e⟩, ⟨vs, he, rfl⟩⟩ ?_
 rintro ⟨suf, us, mi, t7, B⟩ ⟨⟨pre, hp, hpl, hmi⟩, hB, hk, hmine, ws, hws, hvs⟩ next
 simp only at hp hpl hmi hB hk hmine hws hvs next
 cases suf with
 | nil =>
   simp only [evL, Rl.ok.injEq] at hws
   obtain ⟨rfl, rfl⟩ := hws
   rw [List.append_nil] at hvs
   subst hvs
   have all := evL_ok args m n0 hlit hm
   rw [he] at all
   obtain ⟨hvo, hmo⟩ := all
   have hn1 : n0 + nodL args ≤ 1099511627776 := by omega
   have e0 : decide ((vs.length : Int) < (args.length : Nat)) = false := by rw [hp, ← hpl]; simp
   have fin : ∀ B2, HS B2 x m2 → Keep A B2 x → G (some (v.av, finH 123 A v.av B2)) := by
    intro B2 q1 q2
    rw [hG]
    obtain ⟨k1, k2⟩ := keep_fin (f := 123) (nice_v v) hS q1 q2
    exact ⟨_, rfl, k1, k2⟩
   have fr (B2 : AHeap) := finR (f := 123) (A := A) (B := B2) (nice_v v)
   match vs, ha, hvo with
   | [], ha, _ => cases ha
   | _ :: _ :: _ :: _, ha, _ => cases ha
   | [a], ha, hvo =>
     have va := hvo a (by simp)
     have u := unP hB op a va.n (Nat.le_trans va.s (by decide)) (Nat.le_trans hmo.reads hn1) hmo.state hmo.fr
     rw [← unV_rs] at u
     have ha : unV mi op a = .ok v m2 := ha
     rw [ha] at u
     obtain ⟨B2, u1, u2, u3⟩ := u
     rcases hmine.own with ⟨_, h0⟩ | ⟨tok, rfl, hb7⟩
     ·simp at h0
     have ix : aindex 3 B 0 (.own tok 1) = some (.eptr tok 1 0 0) := vown_idx (l := [a]) (i := 0) hb7 (by simp)
     have ld : aload B 3 true (.eptr tok 1 0 0) = some a.av := vown_ld (l := [a]) (i := 0) hb7 rfl
     have f2 := fin B2 u2 (hk.trans u3)
     have fr2 := fr B2
     have e0 : decide ((1 : Int) < (args.length : Nat)) = false := by
      have hal : args.length = 1 := by rw [hp]; simpa using hpl
      rw [hal]; rfl
     simp only [Vl.av, List.length_cons, List.length_nil, Nat.zero_add, List.map_cons, List.map_nil] at u1 ld fr2 f2 ⊢
     simp only [go_sem, acondK_bool, k_drawn_t, e0, ix, ld, u1]
     refine (congrArg G (ctE_ok (by repeat (first | exact MLe.nil | apply MLe.qq | apply MLe.q | apply MLe.o | apply MLe.b | apply MLe.l)) (by kernel_rfl))).mpr ?_
     simp only [go_sem, acondK_bool, fr2]
     exact f2
   | [a, b], ha, hvo =>
     have va := hvo a (by simp)
     have vb := hvo b (by simp)
     have u := binP op a b B (by have := va.s; have := vb.s; omega)
     have ha : (binSV op a b).atV mi = .ok v m2 := ha
     rcases hmine.own with ⟨_, h0⟩ | ⟨tok, rfl, hb7⟩
     ·simp at h0
     have ix : aindex 3 B 0 (.own tok 2) = some (.eptr tok 2 0 0) := vown_idx (l := [a, b]) (i := 0) hb7 (by simp)
     have ix1 : aindex 3 B 1 (.own tok 2) = some (.eptr tok 2 1 0) := vown_idx (l := [a, b]) (i := 1) hb7 (by simp)
     have ld : aload B 3 true (.eptr tok 2 0 0) = some a.av := vown_ld (l := [a, b]) (i := 0) hb7 rfl
     have ld1 : aload B 3 true (.eptr tok 2 1 0) = some b.av := vown_ld (l := [a, b]) (i := 1) hb7 rfl
     cases ho : binSV op a b with
     | stop z => rw [ho] at ha; cases ha
     | ok w =>
       rw [ho] at ha u
       cases ha
       have u := ans_ok u
       have f2 := fin B hB hk
       have fr2 := fr B
       simp only [List.length_cons, List.length_nil, Nat.zero_add, Nat.reduceAdd] at e0
       simp only [Vl.av, List.length_cons, List.length_nil, Nat.zero_add, Nat.reduceAdd, List.map_cons, List.map_nil] at u ld ld1 fr2 f2 ⊢
       simp only [go_sem, acondK_bool, k_drawn_t, e0, ix, ix1, ld, ld1, u]
       refine (congrArg G (ctE_ok (by repeat (first | exact MLe.nil | apply MLe.qq | apply MLe.q | apply MLe.o | apply MLe.b | apply MLe.l)) (by kernel_rfl))).mpr ?_
       simp only [go_sem, acondK_bool, fr2]
       exact f2
 | cons e suf =>
   have hev := ih e (by rw [hp]; simp) B mi _ hB hmi (by rw [hp, nodL_app] at hb; simp only [nodL] at hb; omega)
   simp only [evL] at hws
   cases hr : evE e mi with
   | stop z mz => rw [hr] at hws; simp at hws
   | ok w mw =>
     rw [hr] at hws hev
     simp only at hws
     cases hr2 : evL suf mw with
     | stop z mz => rw [hr2] at hws; simp at hws
     | ok us2 mx =>
       rw [hr2] at hws
       simp only [Rl.ok.injEq] at hws
       obtain ⟨hw1, hw2⟩ := hws
       obtain ⟨B1, a1, a2, a3⟩ := hev
       have litpre : litE e := litL_mem hlit (by rw [hp]; simp)
       have okw := ev_ok e mi _ litpre hmi
       rw [hr] at okw
       have hl7 : us.length + 1 ≤ 4194304 := by
        rw [hp] at hlen; simp at hlen; omega
       obtain ⟨t8, bs, p1, p2, p3, p4, p5, p6⟩ := (hmine.step a3).push a2 (hk.trans a3) w hl7
       have nx := next (suf, us ++ [w], mw, t8, ⟨B1.objs, bs⟩) (by simp) ⟨⟨pre ++ [e], by rw [hp]; simp, by simp [hpl], by rw [nodL_app]; simpa [nodL, Nat.add_assoc] using okw.2⟩, p3, p4, p2, us2, by rw [hr2, hw2], by rw [hvs, ← hw1]; simp⟩
       simp only [Vl.row, Vl.av] at p1 a1
       have e3 : (args.map E.row)[us.length]? = some e.row := by rw [hp, ← hpl]; simp
       have e4 : decide ((us.length : Int) < (args.length : Nat)) = true := by rw [hp, ← hpl]; simp; omega
       have e5 : IntKind.i64.wrap ((us.length : Nat) + 1) = ((us.length + 1 : Nat) : Int) := by rw [wrap_in] <;> omega
       simp only [List.length_append, List.length_cons, List.length_nil, Nat.zero_add] at nx
       obtain ⟨eo, en, es, eas⟩ := e
       simp only [E.row, E.rows_map] at e3
       simp only [E.av, eV] at a1
       simp only [go_sem, acondK_bool, e3, e4, e5, a1, p1, p5, p6, nx]
def contV (op : Int) (us : List Vl) : Rl → Rv
 | .ok ws m => apV op (us ++ ws) m
 | .stop z m => .stop z m
structure ArgS (A : AHeap) (x : Ids) (n0 : Nat) (op : Int) (args : List E) (z : Stp) (mF : Mc) (suf : List E) (vs : List Vl) (mi : Mc) (t7 : AV) (B : AHeap) : Prop where
 pre : ∃ pre, args = pre ++ suf ∧ pre.length = vs.length ∧ MOk mi (n0 + nodL pre)
 hs : HS B x mi
 keep : Keep A B x
 mine : Mine A B x t7 vs
 vok : ∀ v ∈ vs, VOk v
 ev : contV op vs (evL suf mi) = .stop z mF
theorem evN_stop {A : AHeap} {x : Ids} {m mF : Mc} {n0 : Nat} (hS : HS A x m) (hm : MOk m n0) (op n : Int) (s : Bytes) (args : List E) (hlen : args.length ≤ 4194303) (hlit : litL args) (hb : n0 + nodL args + 1 ≤ 1099511627776)
  (h1 : decide (op = 1) = false) (h2 : decide (op = 2) = false) (h3 : decide (op = 3) = false) (ih : ∀ e ∈ args, EvalsTo x e) {z : Stp} (he : contV op [] (evL args m) = .stop z mF) :
  Does 123 [.ptr x.m 0, avE op n s args] A x (.stop z mF) := by
 refine does_stop ?_
 have hG : ∃ G : PR, G = fun y B => y = z.av ∧ HS B x mF ∧ Keep A B x := ⟨_, rfl⟩
 obtain ⟨G, hG⟩ := hG
 suffices h : pcl C px 123 [.ptr x.m 0, avE op n s args] A G by rw [hG] at h; exact h
 have fin : ∀ B2 nt rs, HS B2 x mF → Keep A B2 x → (⟨⟨C, 123, nt, rs, A⟩, px, G⟩ : PF).post z.av B2 := by
  intro B2 nt rs q1 q2
  refine (post_fin (nice_s z)).2 ?_
  obtain ⟨k1, k2⟩ := keep_fin (f := 123) (nice_s z) hS q1 q2
  rw [hG]
  exact ⟨rfl, k1, k2⟩
 refine k_pan_own (c := C) (f := 123) rfl Tryz.func123 rfl (ok 123 (by kernel_rfl)) rfl Tryz.ntmps123 Tryz.results123 (by simp) ?_
 simp only [go_sem, acondK_bool, h1, h2, h3, avE]
 refine p_loop_meas (fun σ : List E × List Vl × Mc × AV × AHeap => [(7, .v σ.2.2.2.1), (40, .v (.d (.int .i64 (σ.2.1.length : Nat)))), (0, .v (.ptr x.m 0)), (38, .v (.d (.slice (args.map E.row)))), (3, .box [.d (.int .i64 op), .d (.int .i64 n), .d (.str s), .d (.slice (args.map E.row))]), (4, .box [.d (.int .i64 0), .d (.int .i64 0), .d (.str [])]), (39, .v (.d (.int .i64 (args.length : Nat))))])
  (fun σ => σ.2.2.2.2) (fun σ => σ.1.length) (fun σ => ArgS A x n0 op args z mF σ.1 σ.2.1 σ.2.2.1 σ.2.2.2.1 σ.2.2.2.2) (args, [], m, .nilS, A) ?_ rfl
  ⟨⟨[], rfl, rfl, by simpa [nodL] using hm⟩, hS, Keep.refl A x, ⟨.inl ⟨rfl, rfl⟩, fun t k e => by cases e⟩, by simp, he⟩ ?_
 ·simp only [go_sem, acondK_bool, firstRegion]
 rintro ⟨suf, us, mi, t7, B⟩ ⟨⟨pre, hp, hpl, hmi⟩, hB, hk, hmine, hvo, hev⟩ next
 simp only at hp hpl hmi hB hk hmine hvo hev next
 cases suf with
 | nil =>
   simp only [evL, contV, List.append_nil] at hev
   have hal : args.length = us.length := by rw [hp]; simpa using hpl
   have hmo := hmi
   have hn1 : n0 + nodL pre ≤ 1099511627776 := by
    have : args = pre := by simpa using hp
    rw [← this]; omega
   have e0 : decide ((us.length : Int) < (args.length : Nat)) = false := by rw [hal]; simp
   match us, hev, hvo with
   | [], hev, _ =>
     have hev : Rv.stop (abt 1009) mi = .stop z mF := hev
     cases hev
     have f2 := fun nt rs => fin B nt rs hB hk
     rcases hmine.own with ⟨rfl, h0⟩ | ⟨tok, rfl, hb7⟩
     ·have e0 : decide ((0 : Int) < (args.length : Nat)) = false := e0
      simp only [List.length_nil]
      simp only [go_sem, acondK_bool, e0]
      exact abortP (f2 _ _)
     ·have e0 : decide ((0 : Int) < (args.length : Nat)) = false := e0
      simp only [List.length_nil, List.map_nil]
      simp only [go_sem, acondK_bool, e0]
      exact abortP (f2 _ _)
   | a :: b :: d :: l, hev, _ =>
     have hev : Rv.stop (abt 1009) mi = .stop z mF := hev
     cases hev
     have f2 := fun nt rs => fin B nt rs hB hk
     rcases hmine.own with ⟨rfl, h0⟩ | ⟨tok, rfl, hb7⟩
     ·simp at h0
     ·have d1 : decide (((l.length + 1 + 1 + 1 : Nat) : Int) = 1) = false := by simp; omega
      have d2 : decide (((l.length + 1 + 1 + 1 : Nat) : Int) = 2) = false := by simp; omega
      simp only [List.length_cons, List.length_map, List.map_cons] at e0 ⊢
      simp only [go_sem, acondK_bool, e0, d1, d2]
      exact abortP (f2 _ _)
   | [a], hev, hvo =>
     have va := hvo a (by simp)
     have u := unP hB op a va.n (Nat.le_trans va.s (by decide)) (Nat.le_trans hmo.reads hn1) hmo.state hmo.fr
     rw [← unV_rs] at u
     have hev : unV mi op a = .stop z mF := hev
     rw [hev] at u
     obtain ⟨B2, u2, u3, u1⟩ := u
     rcases hmine.own with ⟨_, h0⟩ | ⟨tok, rfl, hb7⟩
     ·simp at h0
     have ix : aindex 3 B 0 (.own tok 1) = some (.eptr tok 1 0 0) := vown_idx (l := [a]) (i := 0) hb7 (by simp)
     have ld : aload B 3 true (.eptr tok 1 0 0) = some a.av := vown_ld (l := [a]) (i := 0) hb7 rfl
     have f2 := fun nt rs => fin B2 nt rs u2 (hk.trans u3)
     have e0 : decide ((1 : Int) < (args.length : Nat)) = false := e0
     simp only [Vl.av, List.length_cons, List.length_nil, Nat.zero_add, List.map_cons, List.map_nil] at u1 ld ⊢
     simp only [go_sem, acondK_bool, e0]
     refine p_drawn ?_
     simp only [go_sem, acondK_bool, ix, ld]
     refine pct_here rfl rfl rfl (adrawnP_of (free := []) (by repeat (first | exact MLe.nil | apply MLe.qq | apply MLe.q | apply MLe.o | apply MLe.b | apply MLe.l)) (by simp) (by kernel_rfl)) ?_
     exact u1 _ (f2 _ _)
   | [a, b], hev, hvo =>
     have va := hvo a (by simp)
     have vb := hvo b (by simp)
     have u := binP op a b B (by have := va.s; have := vb.s; omega)
     have hev : (binSV op a b).atV mi = .stop z mF := hev
     rcases hmine.own with ⟨_, h0⟩ | ⟨tok, rfl, hb7⟩
     ·simp at h0
     have ix : aindex 3 B 0 (.own tok 2) = some (.eptr tok 2 0 0) := vown_idx (l := [a, b]) (i := 0) hb7 (by simp)
     have ix1 : aindex 3 B 1 (.own tok 2) = some (.eptr tok 2 1 0) := vown_idx (l := [a, b]) (i := 1) hb7 (by simp)
     have ld : aload B 3 true (.eptr tok 2 0 0) = some a.av := vown_ld (l := [a, b]) (i := 0) hb7 rfl
     have ld1 : aload B 3 true (.eptr tok 2 1 0) = some b.av := vown_ld (l := [a, b]) (i := 1) hb7 rfl
     cases ho : binSV op a b with
     | ok w => rw [ho] at hev; cases hev
     | stop y =>
       rw [ho] at hev u
       cases hev
       have f2 := fun nt rs => fin B nt rs hB hk
       have e0 : decide (((2 : Nat) : Int) < (args.length : Nat)) = false := e0
       simp only [Vl.av, List.length_cons, List.length_nil, Nat.zero_add, Nat.reduceAdd, List.map_cons, List.map_nil] at u ld ld1 ⊢
       simp only [go_sem, acondK_bool, e0]
       refine p_drawn ?_
       simp only [go_sem, acondK_bool, ix, ix1, ld, ld1]
       refine pct_here rfl rfl rfl (adrawnP_of (free := []) (by repeat (first | exact MLe.nil | apply MLe.qq | apply MLe.q | apply MLe.o | apply MLe.b | apply MLe.l)) (by simp) (by kernel_rfl)) ?_
       exact u _ (f2 _ _)
 | cons e suf =>
   have hdo := ih e (by rw [hp]; simp) B mi _ hB hmi (by rw [hp, nodL_app] at hb; simp only [nodL] at hb; omega)
   have okw := ev_ok e mi _ (litL_mem hlit (by rw [hp]; simp)) hmi
   simp only [evL] at hev
   have e3 : (args.map E.row)[us.length]? = some e.row := by rw [hp, ← hpl]; simp
   have e4 : decide ((us.length : Int) < (args.length : Nat)) = true := by rw [hp, ← hpl]; simp; omega
   cases hr : evE e mi with
   | stop y my =>
     rw [hr] at hev hdo
     simp only [contV, Rv.stop.injEq] at hev
     obtain ⟨rfl, rfl⟩ := hev
     obtain ⟨B2, a2, a3, a1⟩ := hdo
     have f2 := fun nt rs => fin B2 nt rs a2 (hk.trans a3)
     have no : acl C 123 [.ptr x.m 0, E.av e] B = none := pcl_no pxNo (a1 (fun _ _ => True) trivial)
     obtain ⟨eo, en, es, eas⟩ := e
     simp only [E.row, E.rows_map] at e3
     simp only [E.av, eV] at a1 no
     simp only [go_sem, acondK_bool, e3, e4, no]
     exact a1 _ (f2 _ _)
   | ok w mw =>
     rw [hr] at hev hdo okw
     obtain ⟨B1, a1, a2, a3⟩ := hdo
     have hl7 : us.length + 1 ≤ 4194304 := by
      rw [hp] at hlen; simp at hlen; omega
     obtain ⟨t8, bs, p1, p2, p3, p4, p5, p6⟩ := (hmine.step a3).push a2 (hk.trans a3) w hl7
     have nx := fun env' => next (suf, us ++ [w], mw, t8, ⟨B1.objs, bs⟩) env' (by simp) ⟨⟨pre ++ [e], by rw [hp]; simp, by simp [hpl], by rw [nodL_app]; simpa [nodL, Nat.add_assoc] using okw.2⟩, p3, p4, p2, by
      intro v hv
      rcases List.mem_append.1 hv with hv | hv
      ·exact hvo v hv
      ·rw [List.mem_singleton.1 hv]; exact okw.1, by
      rw [← hev]
      simp only
      cases evL suf mw with
      | ok l m => simp [contV]
      | stop z m => rfl⟩
     simp only [Vl.row, Vl.av] at p1 a1
     have e5 : IntKind.i64.wrap ((us.length : Nat) + 1) = ((us.length + 1 : Nat) : Int) := by rw [wrap_in] <;> omega
     simp only [List.length_append, List.length_cons, List.length_nil, Nat.zero_add] at nx
     obtain ⟨eo, en, es, eas⟩ := e
     simp only [E.row, E.rows_map] at e3
     simp only [E.av, eV] at a1
     simp only [go_sem, acondK_bool, e3, e4, e5, a1, p1, p5, p6]
     refine nx _ ?_
     simp only [go_sem, acondK_bool, firstRegion]
end Go.Proofs.YtpbdjgdmhfibmaaGreatDoor
namespace Go.Proofs.YtpbdjgdmhfibmaaGreatDoor
open Go.Abs
set_option maxRecDepth 100000
theorem evalP (x : Ids) : ∀ e : E, e.Ok → litE e → EvalsTo x e := by
 intro e
 induction e using E.ind with
 | h op n s args ih =>
   intro hok hl B mi k hS hm hk
   have hl' := hl
   simp only [litE] at hl'
   simp only [nodE] at hk
   have hlen : args.length ≤ 4194303 := by cases hok; assumption
   have ih' : ∀ e ∈ args, EvalsTo x e := fun e he => ih e he (hok.arg e he) (litL_mem hl'.2.2 he)
   have hav : E.av (.mk op n s args) = avE op n s args := rfl
   rw [hav]
   simp only [evE]
   cases h1 : decide (op = 1) with
   | true =>
     obtain rfl := of_decide_eq_true h1
     simp only [if_true]
     exact ev1 hS n s args
   | false =>
   cases h2 : decide (op = 2) with
   | true =>
     obtain rfl := of_decide_eq_true h2
     simp only [Bool.false_eq_true, if_true, if_false]
     exact ev2 hS n s args
   | false =>
   cases h3 : decide (op = 3) with
   | true =>
     obtain rfl := of_decide_eq_true h3
     simp only [Bool.false_eq_true, if_true, if_false]
     have h := ev3 hS n s args
     cases hv : lookE mi.vars s with
     | some v => rw [hv] at h; exact h
     | none => rw [hv] at h; exact h
   | false =>
     simp only [Bool.false_eq_true, if_false]
     cases hr : evL args mi with
     | stop z mz =>
       exact evN_stop hS hm op n s args hlen hl'.2.2 (by omega) h1 h2 h3 ih' (by rw [hr]; rfl)
     | ok vs m1 =>
       simp only
       cases ha : apV op vs m1 with
       | ok v m2 => exact evN_ok hS hm op n s args hlen hl'.2.2 (by omega) h1 h2 h3 ih' hr ha
       | stop z m2 => exact evN_stop hS hm op n s args hlen hl'.2.2 (by omega) h1 h2 h3 ih' (by rw [hr]; exact ha)
attribute [local congr] ite_congr
def setE : List (Bytes × Vl) → Bytes → Vl → List (Bytes × Vl)
 | [], k, v => [(k, v)]
 | p :: l, k, v => if k == p.1 then (k, v) :: l else p :: setE l k v
theorem aupd_mapE (k : Bytes) (v : Vl) : ∀ l, aupd 2 (.str k) v.av (mapE l) = some (mapE (setE l k v))
 | [] => rfl
 | p :: l => by
   have ih := aupd_mapE k v l
   simp only [mapE, List.map_cons, aupd, aeqK, Option.bind_some, setE]
   cases h : k == p.1 with
   | true => simp
   | false => simp only [Bool.false_eq_true, if_false]; simp only [mapE] at ih; rw [ih]; rfl
theorem look_set (l : List (Bytes × Vl)) (k j : Bytes) (v : Vl) : lookE (setE l k v) j = if j == k then some v else lookE l j := by
 induction l with
 | nil => simp [setE, lookE]
 | cons p l ih =>
   unfold setE
   by_cases h : k = p.1
   ·subst h
    simp only [beq_self_eq_true, if_true, lookE]
    by_cases h2 : j = p.1 <;> simp [h2]
   ·have : (k == p.1) = false := by simp [h]
    simp only [this, Bool.false_eq_true, if_false, lookE]
    rw [ih]
    by_cases h2 : j = p.1
    ·subst h2
     have : (p.1 == k) = false := by simp [Ne.symm h]
     simp [this]
    ·simp [h2]
theorem HM.updO {A : AHeap} {x : Ids} {ov rv wv : AV} {m : Mc} (h : HM A x ov rv wv m) (l : List (Bytes × Vl)) : HM ⟨A.objs.set x.o (.map (mapE l)), A.bufs⟩ x ov rv wv { m with own := l } := by
 have lt := (List.getElem?_eq_some_iff.1 h.own).1
 exact ⟨by simpa [List.getElem?_set, Ne.symm h.n2, mcell] using h.cell, by simpa [List.getElem?_set, Ne.symm h.n3] using h.vars, by simp [lt], h.out, h.rd, h.wr, h.d1, h.d2, h.d3, h.n1, h.n2, h.n3⟩
theorem HM.updV {A : AHeap} {x : Ids} {ov rv wv : AV} {m : Mc} (h : HM A x ov rv wv m) (l : List (Bytes × Vl)) : HM ⟨A.objs.set x.v (.map (mapE l)), A.bufs⟩ x ov rv wv { m with vars := l } := by
 have lt := (List.getElem?_eq_some_iff.1 h.vars).1
 exact ⟨by simpa [List.getElem?_set, Ne.symm h.n1, mcell] using h.cell, by simp [lt], by simpa [List.getElem?_set, h.n3] using h.own, h.out, h.rd, h.wr, h.d1, h.d2, h.d3, h.n1, h.n2, h.n3⟩
theorem HM.keepO {A : AHeap} {x : Ids} {ov rv wv : AV} {m : Mc} (h : HM A x ov rv wv m) (o : AObj) : Keep A ⟨A.objs.set x.o o, A.bufs⟩ x := by
 refine ⟨fun i hi h1 h2 h3 => by simp [List.getElem?_set, Ne.symm h3], by simp, Nat.le_refl _, fun t b hb hn => ⟨hb, ?_⟩⟩
 rintro ⟨cs, hc, n, hm⟩
 exact hn ⟨cs, by simpa [List.getElem?_set, Ne.symm h.n2] using hc, n, hm⟩
theorem HM.keepV {A : AHeap} {x : Ids} {ov rv wv : AV} {m : Mc} (h : HM A x ov rv wv m) (o : AObj) : Keep A ⟨A.objs.set x.v o, A.bufs⟩ x := by
 refine ⟨fun i hi h1 h2 h3 => by simp [List.getElem?_set, Ne.symm h2], by simp, Nat.le_refl _, fun t b hb hn => ⟨hb, ?_⟩⟩
 rintro ⟨cs, hc, n, hm⟩
 exact hn ⟨cs, by simpa [List.getElem?_set, Ne.symm h.n1] using hc, n, hm⟩
def storeS (m : Mc) (k : Bytes) (v : Vl) : Rs :=
 if keyV k = true then (if (!m.fa && !hasN m.fw k) = true then .stop (rst k) m else .ok (.tuple []) { m with writes := withS m.writes k, own := setE m.own k v })
 else .stop (abt 1004) m
theorem storeP {A : AHeap} {x : Ids} {m : Mc} (h : HS A x m) (k : Bytes) (v : Vl) (hk : k.length ≤ 1099511627776) (hw : m.writes.length ≤ 1099511627776) (hf : m.fw.length ≤ 1099511627776) :
  Does 125 [.ptr x.m 0, .d (.str k), v.av] A x (storeS m k v) := by
 have hS := h
 obtain ⟨ov, rv, wv, h⟩ := h
 have hc := h.cell
 have l := hS.lt.1
 have kv := keyVP k A hk
 unfold storeS
 cases h1 : keyV k with
 | false =>
   obtain ⟨k1, k2⟩ := keep_fin (f := 125) (v := (abt 1004).av) (nice_s _) hS hS (Keep.refl A x)
   refine ⟨_, k1, k2, fun R hR => ?_⟩
   rw [h1] at kv
   refine pC Tryz.func125 rfl Tryz.ntmps125 Tryz.results125 ?_
   simp only [go_sem, acondK_bool, kv, Vl.av]
   exact abortP ((post_fin (nice_s _)).2 hR)
 | true =>
 rw [h1] at kv
 simp only [if_true]
 unfold mcell at hc
 have ct' : acl C 97 [.d (.slice (srow m.fw)), .d (.str k)] A = some (.d (.bool (hasN m.fw k)), A) := containsS m.fw hf k A
 have go : (!m.fa && !hasN m.fw k) = false → Does 125 [.ptr x.m 0, .d (.str k), v.av] A x (.ok (.tuple []) { m with writes := withS m.writes k, own := setE m.own k v }) := by
  intro hg
  obtain ⟨wv', bs, w1, w2, w3, w4, w5⟩ := h.putW k hw
  have hq := w2.updO (setE m.own k v)
  have hB : HS _ x { m with writes := withS m.writes k, own := setE m.own k v } := ⟨_, _, _, hq⟩
  obtain ⟨k1, k2⟩ := keep_fin (f := 125) (v := .tuple []) nice_t hS hB (w3.trans (w2.keepO _))
  refine ⟨_, ?_, k1, k2⟩
  have e := fun B => finR (f := 125) (A := A) (B := B) nice_t
  have gs (o : AObj) : (A.objs.set x.m o)[x.m]? = some o := by simp [l]
  have go (o : AObj) : (A.objs.set x.m o)[x.o]? = some (.map (mapE m.own)) := by rw [List.getElem?_set_ne h.n2]; exact h.own
  have up := aupd_mapE k v m.own
  simp only [Vl.av] at up
  have pl : aplainV (.agg [.d (.int .i64 v.kind), .d (.int .i64 v.n), .d (.str v.s)]) = true := rfl
  cases hfa : m.fa with
  | true =>
    rw [hfa] at hc
    rw [kC Tryz.func125 rfl Tryz.ntmps125 Tryz.results125]
    simp only [go_sem, acondK_bool, k_drawn_t, kv, hc, w1, w4, w5, gs, go, up, pl, Vl.av, amuM]
    refine Eq.trans ctB ?_
    simp only [go_sem, acondK_bool, e, mcell]
  | false =>
    rw [hfa] at hc hg
    have hn : hasN m.fw k = true := by simpa using hg
    rw [hn] at ct'
    rw [kC Tryz.func125 rfl Tryz.ntmps125 Tryz.results125]
    simp only [go_sem, acondK_bool, k_drawn_t, kv, hc, w1, w4, w5, gs, go, up, pl, Vl.av, amuM, ct']
    refine Eq.trans ctB ?_
    simp only [go_sem, acondK_bool, e, mcell]
 cases hg : (!m.fa && !hasN m.fw k) with
 | false => simpa [hg] using go hg
 | true =>
   simp only [if_true]
   obtain ⟨k1, k2⟩ := keep_fin (f := 125) (v := (rst k).av) (nice_s _) hS hS (Keep.refl A x)
   refine ⟨_, k1, k2, fun R hR => ?_⟩
   have hfa : m.fa = false := by cases hq : m.fa <;> simp_all
   have hn : hasN m.fw k = false := by cases hq : hasN m.fw k <;> simp_all
   rw [hfa] at hc
   rw [hn] at ct'
   refine pC Tryz.func125 rfl Tryz.ntmps125 Tryz.results125 ?_
   simp only [go_sem, acondK_bool, kv, hc, ct', Vl.av]
   exact restartP ((post_fin (nice_s _)).2 hR)
theorem HM.putO {A : AHeap} {x : Ids} {ov rv wv : AV} {m : Mc} (h : HM A x ov rv wv m) (v : Vl) (hl : m.out.length + 1 ≤ 4194304) :
  ∃ v' bs, aappend Tryz.prog 69 3 A ov [v.row] = some (v', ⟨A.objs, bs⟩) ∧ HM ⟨A.objs.set x.m (.cells (mcell x v' rv wv { m with out := m.out ++ [v] })), bs⟩ x v' rv wv { m with out := m.out ++ [v] } ∧
    Keep A ⟨A.objs.set x.m (.cells (mcell x v' rv wv { m with out := m.out ++ [v] })), bs⟩ x ∧ v'.cells = [v'] ∧ allOne [v'] = true := by
 obtain ⟨v', bs, h1, h2, h3, h4, h5, hbl, h6⟩ := app_row (r := v.row) rfl h.out (by simpa using hl)
 obtain ⟨o1, d1⟩ := h3 _ _ _ _ h.rd h.d1.symm
 obtain ⟨o2, d2⟩ := h3 _ _ _ _ h.wr h.d2.symm
 refine ⟨v', bs, h1, h.upd rfl rfl (by simpa using h2) o1 o2 d1.symm d2.symm h.d3, h.keep (fun t b hb hn => h4 t b hb (fun n he => hn n (by simp [mcell, he]))) (fun t n hm => ?_) hbl, h6⟩
 simp only [mcell, List.mem_cons, reduceCtorEq, false_or, or_false, List.not_mem_nil] at hm
 rcases hm with hm | hm | hm
 ·rcases h5 t n hm.symm with ⟨n', hn'⟩ | hle
  ·exact .inl ⟨n', by simp [mcell, hn']⟩
  ·exact .inr hle
 ·exact .inl ⟨n, by simp [mcell, hm]⟩
 ·exact .inl ⟨n, by simp [mcell, hm]⟩
def emitS (m : Mc) (v : Vl) : Rs := if decide ((m.out.length : Int) = 16) = true then .stop (abt 1007) m else .ok (.tuple []) { m with out := m.out ++ [v] }
theorem emitP {A : AHeap} {x : Ids} {m : Mc} (h : HS A x m) (v : Vl) (ho : m.out.length ≤ 16) : Does 127 [.ptr x.m 0, v.av] A x (emitS m v) := by
 have hS := h
 obtain ⟨ov, rv, wv, h⟩ := h
 have hc := h.cell
 have l := hS.lt.1
 unfold emitS
 unfold mcell at hc
 have gs (o : AObj) : (A.objs.set x.m o)[x.m]? = some o := by simp [l]
 cases h1 : decide ((m.out.length : Int) = 16) with
 | true =>
   simp only [if_true]
   obtain ⟨k1, k2⟩ := keep_fin (f := 127) (v := (abt 1007).av) (nice_s _) hS hS (Keep.refl A x)
   refine ⟨_, k1, k2, fun R hR => ?_⟩
   rcases h.out with ⟨rfl, h0⟩ | ⟨tok, rfl, hb7⟩
   ·have : m.out = [] := by simpa using h0
    rw [this] at h1; simp at h1
   ·refine pC Tryz.func127 rfl Tryz.ntmps127 Tryz.results127 ?_
    simp only [List.length_map] at hc
    simp only [go_sem, acondK_bool, hc, h1, Vl.av]
    exact abortP ((post_fin (nice_s _)).2 hR)
 | false =>
   simp only [Bool.false_eq_true, if_false]
   obtain ⟨v', bs, p1, p2, p3, p4, p5⟩ := h.putO v (by omega)
   have hB : HS _ x { m with out := m.out ++ [v] } := ⟨_, _, _, p2⟩
   obtain ⟨k1, k2⟩ := keep_fin (f := 127) (v := .tuple []) nice_t hS hB p3
   refine ⟨_, ?_, k1, k2⟩
   have e := fun B => finR (f := 127) (A := A) (B := B) nice_t
   simp only [Vl.row] at p1
   rcases h.out with ⟨rfl, h0⟩ | ⟨tok, rfl, hb7⟩
   ·rw [kC Tryz.func127 rfl Tryz.ntmps127 Tryz.results127]
    simp only [go_sem, acondK_bool, k_drawn_t, hc, p1, p4, p5, gs, Vl.av]
    refine Eq.trans ctB ?_
    simp only [go_sem, acondK_bool, e, mcell]
   ·simp only [List.length_map] at hc p1
    rw [kC Tryz.func127 rfl Tryz.ntmps127 Tryz.results127]
    simp only [go_sem, acondK_bool, k_drawn_t, hc, h1, p1, p4, p5, gs, Vl.av]
    refine Eq.trans ctB ?_
    simp only [go_sem, acondK_bool, e, mcell]
end Go.Proofs.YtpbdjgdmhfibmaaGreatDoor
namespace Go.Proofs.YtpbdjgdmhfibmaaGreatDoor
open Go.Abs
inductive Rx where
 | ok (m : Mc)
 | stop (s : Stp) (m : Mc)
def Rx.rs : Rx → Rs
 | .ok m => .ok (.tuple []) m
 | .stop s m => .stop s m
def Rx.bind : Rx → (Mc → Rx) → Rx
 | .ok m, f => f m
 | .stop s m, _ => .stop s m
def Rv.bind : Rv → (Vl → Mc → Rx) → Rx
 | .ok v m, f => f v m
 | .stop s m, _ => .stop s m
def tickR (m : Mc) : Rx := if decide (16384 < IntKind.i64.wrap (m.steps + 1)) = true then .stop (abt 1008) { m with steps := IntKind.i64.wrap (m.steps + 1) } else .ok { m with steps := IntKind.i64.wrap (m.steps + 1) }
theorem tickR_rs (m : Mc) : (tickR m).rs = tickS m := by unfold tickR tickS; split <;> rfl
def storeR (m : Mc) (k : Bytes) (v : Vl) : Rx :=
 if keyV k = true then (if (!m.fa && !hasN m.fw k) = true then .stop (rst k) m else .ok { m with writes := withS m.writes k, own := setE m.own k v })
 else .stop (abt 1004) m
theorem storeR_rs (m : Mc) (k : Bytes) (v : Vl) : (storeR m k v).rs = storeS m k v := by
 unfold storeR storeS
 split
 ·split <;> rfl
 ·rfl
def emitR (m : Mc) (v : Vl) : Rx := if decide ((m.out.length : Int) = 16) = true then .stop (abt 1007) m else .ok { m with out := m.out ++ [v] }
theorem emitR_rs (m : Mc) (v : Vl) : (emitR m v).rs = emitS m v := by unfold emitR emitS; split <;> rfl
def mustR (b : Bool) (m : Mc) (k : Rx) : Rx := if b = true then k else .stop (abt 1009) m
def loopR (f : Mc → Rx) (name : Bytes) : Nat → Int → Mc → Rx
 | 0, _, m => .ok m
 | n + 1, i, m => (tickR m).bind fun m1 => (f { m1 with vars := setE m1.vars name ⟨1, i, []⟩ }).bind fun m2 => loopR f name n (i + 1) m2
def manyR (lo hi max : Int) : Bool := decide (lo < hi) && decide (IntKind.u64.wrap max < IntKind.u64.wrap (IntKind.u64.wrap hi - IntKind.u64.wrap lo))
mutual
def exS : Stm → Mc → Rx
 | .mk op name max a b body els, m =>
   if decide (op = 1) || decide (op = 2) then (evE a m).bind fun v m1 => .ok { m1 with vars := setE m1.vars name v }
   else if decide (op = 3) then (evE a m).bind fun k m1 => (evE b m1).bind fun v m2 => mustR (decide (k.kind = 2) && (decide (v.kind = 1) || decide (v.kind = 2))) m2 (storeR m2 k.s v)
   else if decide (op = 4) then (evE a m).bind fun k m1 => mustR (decide (k.kind = 2)) m1 (storeR m1 k.s zeroV)
   else if decide (op = 5) then (evE a m).bind fun c m1 => mustR (decide (c.kind = 3)) m1 (if decide (c.n = 1) then exL body m1 else exL els m1)
   else if decide (op = 6) then (evE a m).bind fun lo m1 => (evE b m1).bind fun hi m2 => mustR (decide (lo.kind = 1) && decide (hi.kind = 1)) m2 (if manyR lo.n hi.n max then .stop (abt 1005) m2 else loopR (fun m' => exL body m') name (hi.n - lo.n).toNat lo.n m2)
   else if decide (op = 7) then (evE a m).bind fun v m1 => mustR (decide (v.kind = 1) || decide (v.kind = 2)) m1 (emitR m1 v)
   else if decide (op = 8) then .stop (abt max) m
   else .ok m
def exL : List Stm → Mc → Rx
 | [], m => .ok m
 | x :: l, m => (tickR m).bind fun m1 => (exS x m1).bind fun m2 => exL l m2
end
structure XI (S : Nat) (m : Mc) (j : Nat) : Prop where
 vars : ∀ k v, lookE m.vars k = some v → VOk v
 own : ∀ k v, lookE m.own k = some v → VOk v
 get : ∀ k, VOk (getS m.state k)
 state : m.state.length ≤ 1099511627776
 fr : m.fr.length ≤ 1099511627776
 fw : m.fw.length ≤ 1099511627776
 out : m.out.length ≤ 16
 s0 : 0 ≤ m.steps
 s1 : m.steps ≤ 16385
 reads : m.reads.length + S * j ≤ S * m.steps.toNat
 writes : m.writes.length + j ≤ m.steps.toNat
theorem XI.less {S : Nat} {m : Mc} {j : Nat} (h : XI S m j) : XI S m 0 :=
 ⟨h.vars, h.own, h.get, h.state, h.fr, h.fw, h.out, h.s0, h.s1, by have := h.reads; omega, by have := h.writes; omega⟩
def Rx.all (P : Mc → Prop) (Q : Mc → Prop) : Rx → Prop
 | .ok m => P m
 | .stop _ m => Q m
theorem tick_ok {S : Nat} {m : Mc} (h : XI S m 0) (hs : m.steps ≤ 16384) : (tickR m).all (fun m' => XI S m' 1 ∧ m'.steps ≤ 16384) (fun m' => XI S m' 0) := by
 have e : IntKind.i64.wrap (m.steps + 1) = m.steps + 1 := by have := h.s0; rw [wrap_in] <;> omega
 have e2 : (m.steps + 1).toNat = m.steps.toNat + 1 := by have := h.s0; omega
 have hx : XI S { m with steps := m.steps + 1 } 1 :=
  ⟨h.vars, h.own, h.get, h.state, h.fr, h.fw, h.out, by have := h.s0; simp only; omega, by simp only; omega, by have := h.reads; simp only [e2, Nat.mul_add, Nat.mul_one]; omega, by have := h.writes; simp only [e2]; omega⟩
 unfold tickR
 rw [e]
 split
 ·exact hx.less
 ·rename_i hq
  exact ⟨hx, by simp at hq; simpa using hq⟩
def SameR (m m' : Mc) : Prop := m' = { m with reads := m'.reads }
theorem SameR.refl (m : Mc) : SameR m m := rfl
theorem SameR.trans {a b d : Mc} (h : SameR a b) (k : SameR b d) : SameR a d := by
 unfold SameR at *
 rw [k, h]
def Rv.same (m : Mc) : Rv → Prop
 | .ok _ m' => SameR m m'
 | .stop _ m' => SameR m m'
def Rl.same (m : Mc) : Rl → Prop
 | .ok _ m' => SameR m m'
 | .stop _ m' => SameR m m'
theorem at_same {o : Oc} {m m' : Mc} (h : SameR m m') : (o.atV m').same m := by cases o <;> exact h
theorem un_same (m : Mc) (op : Int) (v : Vl) : (unV m op v).same m := by
 unfold unV
 split
 ·split
  ·exact at_same rfl
  ·exact SameR.refl m
 split
 ·split
  ·exact SameR.refl m
  ·exact SameR.refl m
 split
 ·split
  ·exact at_same rfl
  ·exact SameR.refl m
 split
 ·split
  ·exact SameR.refl m
  ·exact SameR.refl m
 unfold getterV
 split
 ·split
  ·split
   ·exact at_same rfl
   ·split
    ·exact SameR.refl m
    ·exact at_same rfl
  ·exact SameR.refl m
 ·exact SameR.refl m
theorem ap_same (op : Int) (m : Mc) : ∀ vs : List Vl, (apV op vs m).same m
 | [] => SameR.refl m
 | [v] => un_same m op v
 | [_, _] => at_same rfl
 | _ :: _ :: _ :: _ => SameR.refl m
mutual
theorem ev_same : ∀ (e : E) (m : Mc), (evE e m).same m
 | .mk op k s args, m => by
   simp only [evE]
   split
   ·exact SameR.refl m
   split
   ·exact SameR.refl m
   split
   ·split
    ·exact SameR.refl m
    ·exact SameR.refl m
   have h := evL_same args m
   split
   ·rename_i vs m1 he
    rw [he] at h
    have h2 := ap_same op m1 vs
    cases ha : apV op vs m1 with
    | ok v m2 => rw [ha] at h2; exact SameR.trans h h2
    | stop z m2 => rw [ha] at h2; exact SameR.trans h h2
   ·rename_i z m1 he
    rw [he] at h
    exact h
theorem evL_same : ∀ (l : List E) (m : Mc), (evL l m).same m
 | [], m => SameR.refl m
 | e :: l, m => by
   simp only [evL]
   have h := ev_same e m
   split
   ·rename_i v m1 he
    rw [he] at h
    have h2 := evL_same l m1
    split
    ·rename_i vs m2 he2
     rw [he2] at h2
     exact SameR.trans h h2
    ·rename_i z m2 he2
     rw [he2] at h2
     exact SameR.trans h h2
   ·rename_i z m1 he
    rw [he] at h
    exact h
end
theorem XI.eval {S : Nat} {m : Mc} {j : Nat} (h : XI S m j) {e : E} (hl : litE e) {r : Nat} (hr : r + nodE e ≤ S * j) {q : Mc} (hq : SameR m q) (hqr : q.reads.length ≤ m.reads.length + r) :
  (evE e q).all (S * m.steps.toNat - S * j + r + nodE e) := by
 have hm : MOk q (S * m.steps.toNat - S * j + r) := by
  rw [hq]
  exact ⟨h.vars, h.own, h.get, h.state, h.fr, by have := h.reads; simp only; omega⟩
 exact ev_ok e q _ hl hm
attribute [local congr] ite_congr
set_option maxRecDepth 100000
def newS (l : List Kv) (fa : Bool) (fr fw : List Bytes) : Mc := ⟨l, fa, fr, fw, [], [], [], [], [], 0⟩
theorem fin_ptr {f : FuncId} {A : AHeap} {l : List AObj} {i j : Nat} (ho : C.own f = false) : afinR C f A ⟨A.objs ++ l, A.bufs⟩ (some (.ptr i j)) = some (.ptr i j, ⟨A.objs ++ l, A.bufs⟩) := by
 have e : ∀ B, acleanR B (.ptr i j) = (.ptr i j, B) := fun B => rfl
 simp only [afinR, Option.map_some, afinish, ho, Bool.false_eq_true, if_false, e]
 unfold acut
 simp [AV.noptr, AV.noptr2, AV.noptr1]
theorem newP (l : List Kv) (fa : Bool) (fr fw : List Bytes) (A : AHeap) : ∃ A', acl C 47 [.d (.slice (l.map Kv.row)), .agg [.d (.bool fa), .d (.slice (srow fr)), .d (.slice (srow fw))]] A = some (.ptr (A.objs.length + 2) 0, A') ∧
  HM A' ⟨A.objs.length + 2, A.objs.length, A.objs.length + 1⟩ .nilS .nilS .nilS (newS l fa fr fw) ∧ A'.objs.length = A.objs.length + 3 ∧ (∀ i, i < A.objs.length → A'.objs[i]? = A.objs[i]?) ∧ A'.bufs = A.bufs := by
 have f := fun l => fin_ptr (f := 47) (A := A) (l := l) (i := A.objs.length + 2) (j := 0) rfl
 refine ⟨⟨A.objs ++ [.map [], .map [], .cells (mcell ⟨A.objs.length + 2, A.objs.length, A.objs.length + 1⟩ .nilS .nilS .nilS (newS l fa fr fw))], A.bufs⟩, ?_, ?_, by simp, fun i hi => by simp [List.getElem?_append_left hi], rfl⟩
 ·rw [kC Tryz.func47 rfl Tryz.ntmps47 Tryz.results47]
  simp only [go_sem, acondK_bool, f, mcell, newS]
 ·refine ⟨?_, ?_, ?_, .inl ⟨rfl, rfl⟩, .inl ⟨rfl, rfl⟩, .inl ⟨rfl, rfl⟩, ?_, ?_, ?_, ?_, ?_, ?_⟩
  ·simp
  ·simp [mapE, newS]
  ·simp [mapE, newS]
  all_goals first | (intro t n t' n' h; cases h) | (simp)
end Go.Proofs.YtpbdjgdmhfibmaaGreatDoor
