/- The counts of statements and blocks, on the program's side. -/
import Derived.Test.YtpbdjgdmhfibmaaGreatDoorSeatI
import Derived.Test.YtpbdjgdmhfibmaaGreatDoorSeatH
import Derived.Test.YtpbdjgdmhfibmaaGreatDoorGenD
import Derived.Test.YtpbdjgdmhfibmaaGreatDoorSeatA
import Derived.Test.YtpbdjgdmhfibmaaGreatDoorSeatF
import Derived.Test.YtpbdjgdmhfibmaaGreatDoorSeatC
set_option linter.unusedVariables false
set_option linter.unusedSimpArgs false
set_option linter.all false
set_option linter.deprecated false
set_option linter.all false
namespace Go.Proofs.YtpbdjgdmhfibmaaGreatDoor
open Go.Abs
attribute [local congr] ite_congr
set_option maxRecDepth 10000
def K.add (a b : K) : K := ⟨a.s + b.s, a.g + b.g, a.p + b.p, a.e + b.e⟩
def K.mul (a : K) (n : Int) : K := ⟨a.s * n, a.g * n, a.p * n, a.e * n⟩
def K.lar (a b : K) : K := ⟨mx a.s b.s, mx a.g b.g, mx a.p b.p, mx a.e b.e⟩
def K.cut (a : K) : K := ⟨Go.Proofs.YtpbdjgdmhfibmaaGreatDoor.cut a.s, Go.Proofs.YtpbdjgdmhfibmaaGreatDoor.cut a.g, Go.Proofs.YtpbdjgdmhfibmaaGreatDoor.cut a.p, Go.Proofs.YtpbdjgdmhfibmaaGreatDoor.cut a.e⟩
structure K.Nn (a : K) : Prop where
 s : 0 ≤ a.s
 g : 0 ≤ a.g
 p : 0 ≤ a.p
 e : 0 ≤ a.e
theorem K.Nn.add {a b : K} (ha : a.Nn) (hb : b.Nn) : (a.add b).Nn := ⟨Int.add_nonneg ha.s hb.s, Int.add_nonneg ha.g hb.g, Int.add_nonneg ha.p hb.p, Int.add_nonneg ha.e hb.e⟩
theorem mx_nn {a b : Int} (ha : 0 ≤ a) (hb : 0 ≤ b) : 0 ≤ mx a b := by unfold mx; split <;> omega
theorem K.Nn.lar {a b : K} (ha : a.Nn) (hb : b.Nn) : (a.lar b).Nn := ⟨mx_nn ha.s hb.s, mx_nn ha.g hb.g, mx_nn ha.p hb.p, mx_nn ha.e hb.e⟩
theorem K.Nn.mul {a : K} (ha : a.Nn) {n : Int} (h : 0 ≤ n) : (a.mul n).Nn := ⟨Int.mul_nonneg ha.s h, Int.mul_nonneg ha.g h, Int.mul_nonneg ha.p h, Int.mul_nonneg ha.e h⟩
theorem K.Nn.cut {a : K} (h : a.Nn) : a.cut.Ok := ⟨cut_ok h.s, cut_ok h.g, cut_ok h.p, cut_ok h.e⟩
theorem K.plus_cut {a b : K} (ha : a.Nn) (hb : b.Nn) : a.cut.plus b.cut = (a.add b).cut := by
 simp only [K.plus, K.cut, K.add, cut_cut2 hb.s ha.s, cut_cut2 hb.g ha.g, cut_cut2 hb.p ha.p, cut_cut2 hb.e ha.e]
theorem K.larger_cut {a b : K} (ha : a.Nn) (hb : b.Nn) : a.cut.larger b.cut = (a.lar b).cut := by
 simp only [K.larger, K.cut, K.lar, cut_mx ha.s hb.s, cut_mx ha.g hb.g, cut_mx ha.p hb.p, cut_mx ha.e hb.e]
theorem K.times_cut {a : K} (ha : a.Nn) {n : Int} (hn : 0 ≤ n) : a.cut.times n = (a.mul n).cut := by
 simp only [K.times, K.cut, K.mul, cut_mul ha.s hn, cut_mul ha.g hn, cut_mul ha.p hn, cut_mul ha.e hn]
def ownK (op : Int) (a b : E) : K := ⟨1, tE a + tE b, if (decide (op = 3) || decide (op = 4)) = true then 1 else 0, if decide (op = 7) = true then 1 else 0⟩
theorem ownK_nn (op : Int) (a b : E) : (ownK op a b).Nn := by
 have := tE_nn a
 have := tE_nn b
 refine ⟨by unfold ownK; simp, by unfold ownK; simp; omega, ?_, ?_⟩
 ·unfold ownK; simp only; split <;> omega
 ·unfold ownK; simp only; split <;> omega
mutual
def tS : Stm → K
 | .mk op name max a b body els => if decide (op = 5) = true then (ownK op a b).add ((tSs body).lar (tSs els)) else if decide (op = 6) = true then (ownK op a b).add (K.add ⟨max, 0, 0, 0⟩ ((tSs body).mul max)) else ownK op a b
def tSs : List Stm → K
 | [] => ⟨0, 0, 0, 0⟩
 | x :: l => (tS x).add (tSs l)
end
theorem maxOf {x : Stm} {d : Int} (h : stmtS x d = 0) : x.op = 6 → 1 ≤ x.max ∧ x.max ≤ 16 := by
 intro h6
 unfold stmtS at h
 split at h
 ·cases h
 ·rename_i h1
  simp only [Bool.or_eq_true, Bool.not_eq_true', not_or, Bool.not_eq_false, Bool.and_eq_true] at h1
  have h2 := h1.2.2
  unfold maxOk at h2
  rw [if_pos (by simpa using h6)] at h2
  simpa using h2
mutual
theorem tS_nn : ∀ (x : Stm) (d : Int), (∀ y k, Vis.s y k ∈ visS x d → stmtS y k = 0) → (tS x).Nn
 | .mk op name max a b body els, d, h => by
   have h0 := h _ d (vis_self (.mk op name max a b body els) d)
   have o := ownK_nn op a b
   have n1 := tSs_nn body (IntKind.i64.wrap (d + 1)) fun y k hy => h y k (vis_body _ hy)
   have n2 := tSs_nn els (IntKind.i64.wrap (d + 1)) fun y k hy => h y k (vis_els _ hy)
   unfold tS
   split
   ·exact o.add (n1.lar n2)
   ·split
    ·rename_i h6
     have := (maxOf h0 (by simpa using h6)).1
     change 1 ≤ max at this
     exact o.add (K.Nn.add ⟨by show 0 ≤ max; omega, Int.le_refl _, Int.le_refl _, Int.le_refl _⟩ (n1.mul (by omega)))
    ·exact o
theorem tSs_nn : ∀ (l : List Stm) (d : Int), (∀ y k, Vis.s y k ∈ visSs l d → stmtS y k = 0) → (tSs l).Nn
 | [], d, _ => ⟨by simp [tSs], by simp [tSs], by simp [tSs], by simp [tSs]⟩
 | x :: l, d, h => (tS_nn x d fun y k hy => h y k (by rw [visSs]; exact List.mem_append_left _ hy)).add (tSs_nn l d fun y k hy => h y k (by rw [visSs]; exact List.mem_append_right _ hy))
end
theorem absent_tE {e : E} (h : absE e = true) : tE e = 0 := by
 obtain ⟨op, n, s, args⟩ := e
 simp [absentS] at h
 obtain ⟨⟨⟨rfl, rfl⟩, rfl⟩, rfl⟩ := h
 rfl
theorem tSs_snoc : ∀ (l : List Stm) (x : Stm), tSs (l ++ [x]) = (tSs l).add (tS x)
 | [], x => by simp [tSs, K.add]
 | y :: l, x => by simp only [List.cons_append, tSs, tSs_snoc l x, K.add, Int.add_assoc]
def CostStm (x : Stm) : Prop := ∀ A, acl C 119 [Stm.av x] A = some ((tS x).cut.av, A)
def CostBlk (l : List Stm) : Prop := ∀ A, acl C 81 [.d (.slice (l.map Stm.row))] A = some ((tSs l).cut.av, A)
theorem blockC (l : List Stm) (hlen : l.length ≤ 4194303) (d : Int) (hv : ∀ y k, Vis.s y k ∈ visSs l d → stmtS y k = 0) (ih : ∀ x ∈ l, CostStm x) : CostBlk l := by
 intro A
 rw [k_call (c := C) (f := 81) rfl Tryz.func81 rfl (ok 81 (by kernel_rfl)) rfl Tryz.ntmps81 Tryz.results81 (by simp)]
 simp (maxSteps := 1000000) only [go_sem, acondK_bool]
 refine loop_any (fun pre => [(8, .v (.d (.int .i64 (pre.length : Nat)))), (3, .box [.d (.int .i64 (tSs pre).cut.s), .d (.int .i64 (tSs pre).cut.g), .d (.int .i64 (tSs pre).cut.p), .d (.int .i64 (tSs pre).cut.e)]), (6, .v (.d (.slice (l.map Stm.row)))), (2, .box [.d (.int .i64 0), .d (.int .i64 0), .d (.int .i64 0), .d (.int .i64 0)]), (7, .v (.d (.int .i64 (l.length : Nat))))])
  (fun _ => A) (fun _ _ => some ((tSs l).cut.av, A)) l rfl rfl rfl ?_
 intro pre suf hl ih2
 have hb : pre.length < 9223372036854775807 := by rw [hl] at hlen; simp at hlen; omega
 cases suf with
 | nil =>
   rw [List.append_nil] at hl
   subst hl
   have e4 : decide ((l.length : Int) < (l.length : Int)) = false := by simp
   simp (maxSteps := 1000000) only [go_sem, acondK_bool, e4]
   done
 | cons x suf =>
   have hx : x ∈ l := by rw [hl]; simp
   have e1 := ih x hx A
   have e2 := ih2 x suf rfl
   rw [List.length_append, List.length_cons, List.length_nil, tSs_snoc] at e2
   have e3 : (l.map Stm.row)[pre.length]? = some (Stm.row x) := by rw [hl]; exact map_mid
   have e4 : decide ((pre.length : Int) < (l.length : Int)) = true := by rw [hl]; simp; omega
   have n1 : (tSs pre).Nn := tSs_nn pre d fun y k hy => hv y k (by rw [hl, visSs_append]; exact List.mem_append_left _ hy)
   have n2 : (tS x).Nn := tS_nn x d fun y k hy => hv y k (by rw [hl, visSs_append, visSs]; exact List.mem_append_right _ (List.mem_append_left _ hy))
   have p1 := plusP (tSs pre).cut (tS x).cut n1.cut n2.cut A
   rw [K.plus_cut n1 n2] at p1
   rw [Stm.row_eq] at e3
   simp (maxSteps := 1000000) only [go_sem, acondK_bool, e3, e4, e1, p1, k_drawn_t]
   refine Eq.trans (ctE_ok (by repeat (first | exact MLe.nil | apply MLe.qq | apply MLe.q | apply MLe.o | apply MLe.b | apply MLe.l)) (by kernel_rfl)) ?_
   simp (maxSteps := 1000000) only [go_sem, acondK_bool, e2, wrap_nat hb]
theorem minC (n : Int) : (if 16385 < n then (16385 : Int) else n) = cut n := rfl
theorem statementC (x : Stm) (hx : x.Ok) (d : Int) (hv : ∀ y k, Vis.s y k ∈ visS x d → stmtS y k = 0) (hb : CostBlk x.body) (he : CostBlk x.els) : CostStm x := by
 intro A
 have h0 := hv x d (vis_self x d)
 have hs := stmtS_zero h0
 have hm := maxOf h0
 obtain ⟨op, name, max, a, b, body, els⟩ := x
 have r1 := readsC a (Stm.Ok.a hx) A
 have r2 := readsC b (Stm.Ok.b hx) A
 have b1 := hb A
 have b2 := he A
 have n1 := tSs_nn body (IntKind.i64.wrap (d + 1)) fun y k hy => hv y k (vis_body _ hy)
 have n2 := tSs_nn els (IntKind.i64.wrap (d + 1)) fun y k hy => hv y k (vis_els _ hy)
 have ta := tE_nn a
 have tb := tE_nn b
 have ca : 0 ≤ cut (tE a) ∧ cut (tE a) ≤ 100000 := cut_ok ta
 have cb : 0 ≤ cut (tE b) ∧ cut (tE b) ≤ 100000 := cut_ok tb
 have wab := wadd ca cb
 have kab : cut (cut (tE a) + cut (tE b)) = cut (tE a + tE b) := cut_cut2 tb ta
 have absb : uB op = false → tE b = 0 := fun h => absent_tE (hs.nb h)
 have absa : uA op = false → tE a = 0 := fun h => absent_tE (hs.na h)
 have hop : op = 1 ∨ op = 2 ∨ op = 3 ∨ op = 4 ∨ op = 5 ∨ op = 6 ∨ op = 7 ∨ op = 8 := by
  have := hs.op
  change 1 ≤ op ∧ op ≤ 8 at this
  omega
 have c1 : cut 1 = 1 := rfl
 have c0 : cut 0 = 0 := rfl
 have hmax : op = 6 → 1 ≤ max ∧ max ≤ 16 := hm
 change CostBlk body at hb
 change CostBlk els at he
 have fin : ∀ k : K, k = (tS (.mk op name max a b body els)).cut → some ((k.av, A) : AV × AHeap) = some ((tS (.mk op name max a b body els)).cut.av, A) := fun k hk => by rw [hk]
 have base : ∀ c : Int, op = c → ∀ k, decide (op = k) = decide (c = k) := fun c h k => by rw [h]
 rw [k_call (c := C) (f := 119) rfl Tryz.func119 rfl (ok 119 (by kernel_rfl)) rfl Tryz.ntmps119 Tryz.results119 (by simp)]
 rcases hop with h | h | h | h | h | h | h | h
 ·have q := base 1 h
  have hb0 := absb (by rw [h]; rfl)
  simp (maxSteps := 1000000) only [go_sem, acondK_bool, r1, r2, wab, minC, kab, q]
  refine fin ⟨1, cut (tE a), 0, 0⟩ ?_
  simp [tS, ownK, K.cut, q, hb0, c1, c0]
 ·have q := base 2 h
  have hb0 := absb (by rw [h]; rfl)
  simp (maxSteps := 1000000) only [go_sem, acondK_bool, r1, r2, wab, minC, kab, q]
  refine fin ⟨1, cut (tE a), 0, 0⟩ ?_
  simp [tS, ownK, K.cut, q, hb0, c1, c0]
 ·have q := base 3 h
  simp (maxSteps := 1000000) only [go_sem, acondK_bool, r1, r2, wab, minC, kab, k_drawn_t, q]
  refine Eq.trans (ctE_ok (by repeat (first | exact MLe.nil | apply MLe.qq | apply MLe.q | apply MLe.o | apply MLe.b | apply MLe.l)) (by kernel_rfl)) ?_
  simp (maxSteps := 1000000) only [go_sem, acondK_bool, r1, r2, wab, minC, kab, k_drawn_t, q]
  refine fin ⟨1, cut (tE a + tE b), 1, 0⟩ ?_
  simp [tS, ownK, K.cut, q, c1, c0]
 ·have q := base 4 h
  have hb0 := absb (by rw [h]; rfl)
  simp (maxSteps := 1000000) only [go_sem, acondK_bool, r1, r2, wab, minC, kab, q]
  refine fin ⟨1, cut (tE a), 1, 0⟩ ?_
  simp [tS, ownK, K.cut, q, hb0, c1, c0]
 ·have q := base 5 h
  have hb0 := absb (by rw [h]; rfl)
  have l1 := largerP (tSs body).cut (tSs els).cut A
  rw [K.larger_cut n1 n2] at l1
  have hk : (⟨1, cut (tE a), 0, 0⟩ : K) = (ownK op a b).cut := by simp [ownK, K.cut, q, hb0, c1, c0]
  have p1 := plusP (ownK op a b).cut ((tSs body).lar (tSs els)).cut (ownK_nn op a b).cut (n1.lar n2).cut A
  rw [K.plus_cut (ownK_nn op a b) (n1.lar n2), ← hk] at p1
  simp (maxSteps := 1000000) only [go_sem, acondK_bool, r1, r2, wab, minC, kab, k_drawn_t, q, b1, b2, l1, p1]
  refine Eq.trans (ctE_ok (by repeat (first | exact MLe.nil | apply MLe.qq | apply MLe.q | apply MLe.o | apply MLe.b | apply MLe.l)) (by kernel_rfl)) ?_
  simp (maxSteps := 1000000) only [go_sem, acondK_bool, q]
  refine fin _ ?_
  simp [tS, q]
 ·have q := base 6 h
  have hx6 := hmax h
  have t1 := timesP (tSs body).cut max n1.cut ⟨by omega, by omega⟩ A
  rw [K.times_cut n1 (by omega)] at t1
  have nm : (ownK op a b).Nn := ownK_nn op a b
  have ok2 : (⟨1 + max, cut (tE a + tE b), 0, 0⟩ : K).Ok := ⟨by constructor <;> simp <;> omega, cut_ok (by omega), ⟨Int.le_refl 0, (by decide : (0 : Int) ≤ 100000)⟩, ⟨Int.le_refl 0, (by decide : (0 : Int) ≤ 100000)⟩⟩
  have p1 := plusP ⟨1 + max, cut (tE a + tE b), 0, 0⟩ ((tSs body).mul max).cut ok2 (n1.mul (by omega)).cut A
  have wm : IntKind.i64.wrap (1 + max) = 1 + max := by rw [wrap_in] <;> omega
  simp (maxSteps := 1000000) only [go_sem, acondK_bool, r1, r2, wab, minC, kab, k_drawn_t, q, b1, b2, t1, p1, wm]
  refine Eq.trans (ctE_ok (by repeat (first | exact MLe.nil | apply MLe.qq | apply MLe.q | apply MLe.o | apply MLe.b | apply MLe.l)) (by kernel_rfl)) ?_
  simp (maxSteps := 1000000) only [go_sem, acondK_bool, r1, r2, wab, minC, kab, k_drawn_t, q, b1, b2, t1, p1, wm]
  refine Eq.trans (ctE_ok (by repeat (first | exact MLe.nil | apply MLe.qq | apply MLe.q | apply MLe.o | apply MLe.b | apply MLe.l)) (by kernel_rfl)) ?_
  simp (maxSteps := 1000000) only [go_sem, acondK_bool, q]
  refine fin _ ?_
  have m1 := n1.mul (n := max) (by omega)
  simp only [tS, q, K.plus, K.cut, K.add, ownK]
  simp only [Int.reduceEq, decide_true, decide_false, if_true, Bool.false_eq_true, if_false, Bool.or_self]
  have e1 := m1.s
  have e2 := m1.g
  have e3 := m1.p
  have e4 := m1.e
  rw [cut_cut e1 (by omega), cut_cut2 e2 (by omega), cut_cut e3 (by decide), cut_cut e4 (by decide)]
  simp [Int.add_assoc]
 ·have q := base 7 h
  have hb0 := absb (by rw [h]; rfl)
  simp (maxSteps := 1000000) only [go_sem, acondK_bool, r1, r2, wab, minC, kab, q]
  refine fin ⟨1, cut (tE a), 0, 1⟩ ?_
  simp [tS, ownK, K.cut, q, hb0, c1, c0]
 ·have q := base 8 h
  have hb0 := absb (by rw [h]; rfl)
  have ha0 := absa (by rw [h]; rfl)
  simp (maxSteps := 1000000) only [go_sem, acondK_bool, r1, r2, wab, minC, kab, q]
  refine fin ⟨1, 0, 0, 0⟩ ?_
  simp [tS, ownK, K.cut, q, hb0, ha0, c1, c0]
theorem statement_in : ∀ x : Stm, x.Ok → ∀ d, (∀ y k, Vis.s y k ∈ visS x d → stmtS y k = 0) → CostStm x := by
 intro x
 induction x using Stm.ind with
 | h op name max a b body els ihb ihe =>
   intro hok d hv
   obtain ⟨f1, f2⟩ := stmFit2 hok
   have hvb : ∀ y k, Vis.s y k ∈ visSs body (IntKind.i64.wrap (d + 1)) → stmtS y k = 0 := fun y k hy => hv y k (vis_body _ hy)
   have hve : ∀ y k, Vis.s y k ∈ visSs els (IntKind.i64.wrap (d + 1)) → stmtS y k = 0 := fun y k hy => hv y k (vis_els _ hy)
   exact statementC _ hok d hv (blockC body f1 _ hvb fun y hy => ihb y hy (Stm.Ok.bodyOk hok y hy) _ fun z k hz => hvb z k (visSs_mem hy _ _ hz)) (blockC els f2 _ hve fun y hy => ihe y hy (Stm.Ok.elsOk hok y hy) _ fun z k hz => hve z k (visSs_mem hy _ _ hz))
theorem bodyC (p : Pr) (hp : p.Ok) (V : Vld p) : CostBlk p.body := blockC p.body hp.bfit 1 V.stm fun x hx => statement_in x (hp.body x hx) 1 fun y k hy => V.stm y k (visSs_mem hx _ _ hy)
end Go.Proofs.YtpbdjgdmhfibmaaGreatDoor
set_option linter.all false
namespace Go.Proofs.YtpbdjgdmhfibmaaGreatDoor
open Go.Abs
-- CTX D
attribute [local congr] ite_congr
set_option maxRecDepth 10000
end Go.Proofs.YtpbdjgdmhfibmaaGreatDoor
set_option linter.all false
namespace Go.Proofs.YtpbdjgdmhfibmaaGreatDoor
open Go.Abs
-- CTX D
attribute [local congr] ite_congr
set_option maxRecDepth 10000
theorem first_ops (p : Pr) (hp : p.Ok) (A : AHeap) : acl D 117 [Pr.av p] A = some (.tuple [.d (.int .i64 (fstP p).1), .d (.int .i64 (fstP p).2.1), .d (.bool (fstP p).2.2)], A) :=
 firstD p hp (fun h => by have := few_ops p h; omega) A
theorem detD (p : Pr) (hp : p.Ok) (A : AHeap) : acl D 80 [Pr.av p] A = some (.d (.int .i64 (detS p)), A) := by
 have c1 := up (checkOfG p hp A)
 have f1 := first_ops p hp A
 rw [k_call (c := D) (f := 80) rfl Tryz.func80 rfl (ok 80 (by kernel_rfl)) rfl Tryz.ntmps80 Tryz.results80 (by simp)]
 unfold detS
 cases h1 : decide (chkS p = 0) with
 | false => simp (maxSteps := 1000000) only [go_sem, acondK_bool, k_drawn_q, c1, h1]
 | true => cases h2 : (fstP p).2.2 <;> simp (maxSteps := 1000000) only [go_sem, acondK_bool, k_drawn_q, c1, h1, f1, h2]
theorem chk_val {p : Pr} (h : chkS p = 0) : valS p = 0 := by
 unfold chkS at h
 by_cases h1 : decide (preErr p = 0) = true
 ·have h2 : preErr p = 0 := by simpa using h1
  unfold preErr at h2
  by_cases h3 : valS p = 0
  ·exact h3
  ·rw [if_neg (by simpa using h3)] at h2; exact h2
 ·rw [if_neg h1] at h
  rw [h] at h1
  exact absurd rfl h1
end Go.Proofs.YtpbdjgdmhfibmaaGreatDoor
set_option linter.all false
namespace Go.Proofs.YtpbdjgdmhfibmaaGreatDoor
open Go.Abs
-- CTX D
attribute [local congr] ite_congr
set_option maxRecDepth 10000
section
variable {env : AEnv} {A : AHeap} {x : Operand} {k : IntKind}
@[go_sem] theorem jx0 : aindexK D env A 147 x (some (.d (.int k 0))) = aplK A 0 (aplace env x) := ixK D rfl 0 (by decide)
@[go_sem] theorem jx1 : aindexK D env A 147 x (some (.d (.int k 1))) = aplK A 1 (aplace env x) := ixK D rfl 1 (by decide)
@[go_sem] theorem jx2 : aindexK D env A 147 x (some (.d (.int k 2))) = aplK A 2 (aplace env x) := ixK D rfl 2 (by decide)
@[go_sem] theorem jx3 : aindexK D env A 147 x (some (.d (.int k 3))) = aplK A 3 (aplace env x) := ixK D rfl 3 (by decide)
end
def limS (k : K) : Int := if decide (16384 < k.s) = true then 13 else if (decide (64 < k.g) || decide (64 < k.p) || decide (16 < k.e)) = true then 2 else 0
def costC (p : Pr) : Int := if decide (detS p = 0) = true then limS (tSs p.body).cut else detS p
theorem det_vld {p : Pr} (h : detS p = 0) : Vld p := by
 refine (valS_zero p).1 (chk_val ?_)
 unfold detS at h
 by_cases h1 : decide (chkS p = 0) = true
 ·simpa using h1
 ·rw [if_neg h1] at h
  rw [h] at h1
  exact absurd rfl h1
theorem costD (p : Pr) (hp : p.Ok) (A : AHeap) : acl D 42 [Pr.av p] A = some (.d (.int .i64 (costC p)), A) := by
 have d1 := detD p hp A
 rw [k_call (c := D) (f := 42) rfl Tryz.func42 rfl (ok 42 (by kernel_rfl)) rfl Tryz.ntmps42 Tryz.results42 (by simp)]
 unfold costC
 cases c1 : decide (detS p = 0) with
 | false => simp (maxSteps := 1000000) only [go_sem, acondK_bool, k_drawn_q, d1, c1]
 | true =>
   have b1 := up (bodyC p hp (det_vld (by simpa using c1)) A)
   unfold limS
   generalize (tSs p.body).cut = k at *
   cases q1 : decide (16384 < k.s) with
   | true => simp (maxSteps := 1000000) only [go_sem, acondK_bool, k_drawn_q, d1, c1, b1, q1]
   | false => cases q2 : decide (64 < k.g) <;> cases q3 : decide (64 < k.p) <;> cases q4 : decide (16 < k.e) <;> simp (maxSteps := 1000000) only [go_sem, acondK_bool, k_drawn_q, d1, c1, b1, q1, q2, q3, q4]
end Go.Proofs.YtpbdjgdmhfibmaaGreatDoor
set_option linter.all false
namespace Go.Proofs.YtpbdjgdmhfibmaaGreatDoor
open Go.Abs
attribute [local congr] ite_congr
set_option maxRecDepth 10000
theorem chk_zero {p : Pr} (h : chkS p = 0) : Vld p ∧ prmBool p.params = false ∧ dupR [] (namesS p) = false ∧ preErr p = 0 ∧ (ckB p).1 = 0 := by
 unfold chkS at h
 by_cases h0 : preErr p = 0
 ·rw [if_pos (by simpa using h0)] at h
  have h1 := h0
  unfold preErr at h1
  by_cases hv : valS p = 0
  ·rw [if_pos (by simpa using hv)] at h1
   split at h1
   ·cases h1
   ·rename_i hb
    split at h1
    ·cases h1
    ·rename_i hd
     have hdup : dupF [] (namesS p) = dupR [] (namesS p) := dup_eq (namesS p) []
     exact ⟨(valS_zero p).1 hv, by simpa using hb, by rw [← hdup]; simpa using hd, h0, h⟩
  ·rw [if_neg (by simpa using hv)] at h1
   exact absurd h1 hv
 ·rw [if_neg (by simpa using h0)] at h
  exact absurd h h0
@[go_sem] theorem plainT (s : Bytes) (A : AHeap) (hl : s.length ≤ 1099511627776) : acl C 82 [.d (.str s)] A = some (.d (.bool (plainS s)), A) := by
  rw [k_call (c := C) (f := 82) rfl Tryz.func82 rfl (ok 82 (by kernel_rfl)) rfl Tryz.ntmps82 Tryz.results82 (by simp)]
  simp (maxSteps := 1000000) +contextual only [go_sem, acondK_bool]
  refine loop_list (fun n => [(0, .v (.d (.str s))), (3, .v (.d (.int .i64 (n : Int))))]) (fun pre suf => some (.d (.bool (suf.all inner && decide ((s.length : Int) ≤ 64))), A)) s rfl (by simp [plainS]) ?_
  intro pre suf h ih
  subst h
  have hb : pre.length < 9223372036854775807 := by simp at hl; omega
  cases suf with
  | nil => simp (maxSteps := 1000000) +contextual only [go_sem, acondK_bool]
  | cons x suf =>
    simp (maxSteps := 1000000) +contextual only [go_sem, acondK_bool, ih x suf rfl, wrap_nat hb]
    refine leafB ?_
    cases hx : inner x <;> simp [hx] <;> simp [inner] at hx <;> omega
def fitI (v : Vl) (t : Int) : Bool := (decide (v.kind = 1) && (v.s == [])) && decide (t = 1)
def fitT (v : Vl) (t : Int) : Bool := ((decide (v.kind = 2) && decide (v.n = 0)) && plainS v.s) && decide (t = 2)
def fitS (v : Vl) (t : Int) : Bool := if decide (t = 1) = true then decide (v.kind = 1) && (v.s == []) else (decide (v.kind = 2) && decide (v.n = 0)) && plainS v.s
theorem fit_eq (v : Vl) {t : Int} (h : t = 1 ∨ t = 2) : fitS v t = (fitI v t || fitT v t) := by
 rcases h with rfl | rfl <;> simp [fitS, fitI, fitT]
def argsS (p : Pr) (vs : List Vl) : Int :=
 if (!decide (chkS p = 0) || !decide ((vs.length : Int) = (p.params.length : Nat))) = true then 1
 else if (vs.zip p.params).all (fun x => fitS x.1 x.2.type) = true then 0 else 10
theorem zip_fst {α β : Type} : ∀ (a : List α) (b : List β), a.length = b.length → (a.zip b).map Prod.fst = a
 | [], [], _ => rfl
 | x :: a, y :: b, h => by
   rw [List.zip_cons_cons, List.map_cons, zip_fst a b (by simpa using h)]
theorem zip_snd {α β : Type} : ∀ (a : List α) (b : List β), a.length = b.length → (a.zip b).map Prod.snd = b
 | [], [], _ => rfl
 | x :: a, y :: b, h => by
   rw [List.zip_cons_cons, List.map_cons, zip_snd a b (by simpa using h)]
set_option maxHeartbeats 1000000 in
theorem argsOf (p : Pr) (hp : p.Ok) (h40 : p.params.length ≤ 40) (vs : List Vl) (hv : ∀ v ∈ vs, v.Ok) (A : AHeap) : acl C 43 [Pr.av p, .d (.slice (vs.map Vl.row))] A = some (.d (.int .i64 (argsS p vs)), A) := by
 have c1 := checkOf p hp h40 A
 rw [k_call (c := C) (f := 43) rfl Tryz.func43 rfl (ok 43 (by kernel_rfl)) rfl Tryz.ntmps43 Tryz.results43 (by simp)]
 unfold argsS
 cases hc : decide (chkS p = 0) with
 | false => simp (maxSteps := 1000000) only [go_sem, acondK_bool, c1, hc]
 | true =>
 cases hl : decide ((vs.length : Int) = (p.params.length : Int)) with
 | false => simp (maxSteps := 1000000) only [go_sem, acondK_bool, c1, hc, hl]
 | true =>
 have V := (chk_zero (by simpa using hc : chkS p = 0)).1
 have hb := (chk_zero (by simpa using hc : chkS p = 0)).2.1
 have hl2 : vs.length = p.params.length := by simp at hl; omega
 have hty : ∀ x ∈ p.params, x.type = 1 ∨ x.type = 2 := by
  intro x hx
  have h1 := ((prmS_zero3 _).1 V.prm).2.1 x hx
  have h2 : ¬ x.type = 3 := by
   intro h3
   have : prmBool p.params = true := by
    unfold prmBool
    exact List.any_eq_true.2 ⟨x, hx, by simpa using h3⟩
   rw [this] at hb
   cases hb
  omega
 simp (maxSteps := 1000000) only [go_sem, acondK_bool, c1, hc, hl]
 have z1 := zip_fst vs p.params hl2
 have z2 := zip_snd vs p.params hl2
 have z3 : (vs.zip p.params).length = vs.length := by simp [hl2]
 have z4 : ∀ x ∈ vs.zip p.params, x.1.Ok ∧ (x.2.type = 1 ∨ x.2.type = 2) := fun x hx => ⟨hv _ (List.of_mem_zip hx).1, hty _ (List.of_mem_zip hx).2⟩
 generalize vs.zip p.params = l at *
 refine loop_any (fun pre => [(21, .v (.d (.int .i64 (vs.length : Nat)))), (20, .v (.d (.slice (vs.map Vl.row)))), (2, .box [.d (.str p.name), .d (.slice (p.params.map Pm.row)), .d (.slice (p.body.map Stm.row))]), (22, .v (.d (.int .i64 (pre.length : Nat))))])
  (fun _ => A) (fun _ suf => some (.d (.int .i64 (if suf.all (fun x => fitS x.1 x.2.type) = true then 0 else 10)), A)) l rfl rfl (by simp) ?_
 intro pre suf h ih
 have hb : pre.length < 9223372036854775807 := by rw [h] at z3; simp at z3; omega
 cases suf with
 | nil =>
   have e4 : decide ((pre.length : Int) < (vs.length : Int)) = false := by rw [← z3, h]; simp
   simp (maxSteps := 1000000) only [go_sem, acondK_bool, e4]
 | cons x suf =>
   obtain ⟨v, m⟩ := x
   have e2 := ih (v, m) suf rfl
   rw [List.length_append, List.length_cons, List.length_nil] at e2
   have e3 : (vs.map Vl.row)[pre.length]? = some [.int .i64 v.kind, .int .i64 v.n, .str v.s] := by rw [← z1, h, List.map_map]; exact map_mid
   have e5 : (p.params.map Pm.row)[pre.length]? = some [.str m.name, .int .i64 m.type] := by rw [← z2, h, List.map_map]; exact map_mid
   have e4 : decide ((pre.length : Int) < (vs.length : Int)) = true := by rw [← z3, h]; simp; omega
   obtain ⟨hvo, ht⟩ := z4 (v, m) (by rw [h]; simp)
   have p1 := plainT v.s A hvo.s
   have hf := fit_eq v ht
   simp only [List.all_cons, hf, fitI, fitT]
   simp only at hvo ht
   cases k1 : decide (v.kind = 1) with
   | true =>
     have k2 : decide (v.kind = 2) = false := by simp at k1 ⊢; omega
     cases k3 : (v.s == []) with
     | false => simp (maxSteps := 1000000) only [go_sem, acondK_bool, e3, e4, e5, e2, k1, k2, k3, wrap_nat hb]
     | true =>
       cases k4 : decide (m.type = 1) <;> simp (maxSteps := 1000000) only [go_sem, acondK_bool, e3, e4, e5, e2, k1, k2, k3, k4, wrap_nat hb]
   | false =>
     cases k2 : decide (v.kind = 2) with
     | false => simp (maxSteps := 1000000) only [go_sem, acondK_bool, e3, e4, e5, e2, k1, k2, wrap_nat hb]
     | true =>
       cases k3 : decide (v.n = 0) with
       | false => simp (maxSteps := 1000000) only [go_sem, acondK_bool, e3, e4, e5, e2, k1, k2, k3, wrap_nat hb]
       | true =>
         cases k4 : plainS v.s with
         | false => simp (maxSteps := 1000000) only [go_sem, acondK_bool, e3, e4, e5, e2, k1, k2, k3, p1, k4, wrap_nat hb]
         | true => cases k5 : decide (m.type = 2) <;> simp (maxSteps := 1000000) only [go_sem, acondK_bool, e3, e4, e5, e2, k1, k2, k3, p1, k4, k5, wrap_nat hb]
end Go.Proofs.YtpbdjgdmhfibmaaGreatDoor
-- CTX D
set_option linter.all false
namespace Go.Proofs.YtpbdjgdmhfibmaaGreatDoor
open Go.Abs
attribute [local congr] ite_congr
set_option maxRecDepth 100000
def wrongAV : AV := effAV 2 1009 [] [] [] [] [] 0
theorem fin_data {f : FuncId} (ho : D.own f = false) {A B : AHeap} {v : AV} (hv : nice v) (h1 : B.objs.take A.objs.length = A.objs) (h2 : B.bufs.take A.bufs.length = A.bufs) : afinR D f A B (some v) = some (v, A) := by
 obtain ⟨n1, n2, n3⟩ := hv
 simp only [afinR, Option.map_some, afinish, ho, Bool.false_eq_true, if_false, acleanR_still n1, n2]
 unfold acut
 rw [if_pos h1, if_pos n3, h2]
def runOk (p : Pr) (vs : List Vl) (l : List Kv) : Bool := decide (costC p = 0) && (decide (argsS p vs = 0) && stV l)
theorem run_wrong (p : Pr) (hp : p.Ok) (h40 : p.params.length ≤ 40) (vs : List Vl) (hv : ∀ v ∈ vs, v.Ok) (l : List Kv) (hl : l.length ≤ 1099511627776) (hk : ∀ p ∈ l, p.key.length ≤ 1099511627776 ∧ p.v.s.length ≤ 1099511627776) (A : AHeap) (h : runOk p vs l = false) :
  acl D 22 [Pr.av p, .d (.slice (vs.map Vl.row)), .d (.slice (l.map Kv.row)), .agg [.d (.bool true), .d (.slice []), .d (.slice [])]] A = some (wrongAV, A) := by
 have c1 := costD p hp
 have a1 := fun B => up (argsOf p hp h40 vs hv B)
 have s1 := fun B => up (stVP l B hl hk)
 have w1 := fun B => up (wrongP B)
 have fin := fin_data (f := 22) rfl (v := wrongAV) ⟨rfl, rfl, rfl⟩ (A := A) (B := ⟨A.objs ++ [.cells [.d (.str p.name), .d (.slice (p.params.map Pm.row)), .d (.slice (p.body.map Stm.row))]], A.bufs⟩) (by simp) (by simp)
 unfold wrongAV effAV at fin ⊢
 unfold runOk at h
 rw [k_call (c := D) (f := 22) rfl Tryz.func22 rfl (ok 22 (by kernel_rfl)) rfl Tryz.ntmps22 Tryz.results22 (by simp)]
 cases k1 : decide (costC p = 0) with
 | false => simp (maxSteps := 1000000) only [go_sem, acondK_bool, c1, k1, w1, fin]
 | true =>
 cases k2 : decide (argsS p vs = 0) with
 | false => simp (maxSteps := 1000000) only [go_sem, acondK_bool, c1, k1, a1, k2, w1, fin]
 | true =>
 have k3 : stV l = false := by rw [k1, k2] at h; simpa using h
 rw [k3] at s1
 simp (maxSteps := 1000000) only [go_sem, acondK_bool, c1, k1, a1, k2, s1, w1, fin]
def varsR : List (Vl × Pm) → List (Bytes × Vl) → List (Bytes × Vl)
 | [], l => l
 | x :: z, l => varsR z (setE l x.2.name x.1)
theorem varsR_app : ∀ (a b : List (Vl × Pm)) (l : List (Bytes × Vl)), varsR (a ++ b) l = varsR b (varsR a l)
 | [], _, _ => rfl
 | _ :: a, b, l => varsR_app a b _
def begR (p : Pr) (vs : List Vl) (l : List Kv) : Mc := { newS l true [] [] with vars := varsR (vs.zip p.params) [] }
def finR2 : Rx → AV
 | .ok m => effAV 1 0 (m.out.map Vl.row) (srow m.reads) (srow m.writes) (putsR m.own m.writes) [] m.steps
 | .stop z m => effAV z.st z.code [] (srow m.reads) (srow m.writes) [] z.miss m.steps
theorem HM.push {A : AHeap} {x : Ids} {ov rv wv : AV} {m : Mc} (h : HM A x ov rv wv m) (o : AObj) : HM ⟨A.objs ++ [o], A.bufs⟩ x ov rv wv m :=
 ⟨by rw [List.getElem?_append_left (List.getElem?_eq_some_iff.1 h.cell).1]; exact h.cell, by rw [List.getElem?_append_left (List.getElem?_eq_some_iff.1 h.vars).1]; exact h.vars, by rw [List.getElem?_append_left (List.getElem?_eq_some_iff.1 h.own).1]; exact h.own, h.out, h.rd, h.wr, h.d1, h.d2, h.d3, h.n1, h.n2, h.n3⟩
theorem run_goes (p : Pr) (hp : p.Ok) (h40 : p.params.length ≤ 40) (vs : List Vl) (hv : ∀ v ∈ vs, v.Ok) (l : List Kv) (hl : l.length ≤ 1099511627776) (hk : ∀ p ∈ l, p.key.length ≤ 1099511627776 ∧ p.v.s.length ≤ 1099511627776) (A : AHeap) (h : runOk p vs l = true)
  {S : Nat} (hSb : S ≤ 33554432) (hw : slW S p.body) (hx : XI S (begR p vs l) 0) :
  acl D 22 [Pr.av p, .d (.slice (vs.map Vl.row)), .d (.slice (l.map Kv.row)), .agg [.d (.bool true), .d (.slice []), .d (.slice [])]] A = some (finR2 (exL p.body (begR p vs l)), A) := by
 have c1 := costD p hp
 have a1 := fun B => up (argsOf p hp h40 vs hv B)
 have s1 := fun B => up (stVP l B hl hk)
 have f1 := fun B => up (footP B)
 unfold runOk at h
 simp only [Bool.and_eq_true] at h
 obtain ⟨k1, k2, k3⟩ := h
 rw [k3] at s1
 obtain ⟨A1, hA1⟩ : ∃ A1 : AHeap, A1 = ⟨A.objs ++ [.cells [.d (.str p.name), .d (.slice (p.params.map Pm.row)), .d (.slice (p.body.map Stm.row))]], A.bufs⟩ := ⟨_, rfl⟩
 obtain ⟨A2, n1, n2, n3, n4, n5⟩ := newP l true [] [] A1
 have n1 := up n1
 have e0 : srow [] = [] := rfl
 rw [e0] at n1
 obtain ⟨q, hq⟩ : ∃ q, q = A1.objs.length := ⟨_, rfl⟩
 rw [← hq] at n1 n2 n3
 have hz : vs.length = p.params.length := by
  unfold argsS at k2
  cases hz : decide ((vs.length : Int) = (p.params.length : Nat)) with
  | true => simp at hz; omega
  | false => rw [hz] at k2; simp at k2
 rw [k_call (c := D) (f := 22) rfl Tryz.func22 rfl (ok 22 (by kernel_rfl)) rfl Tryz.ntmps22 Tryz.results22 (by simp)]
 rw [hA1] at n1
 have hq' : q = A.objs.length + 1 := by rw [hq, hA1]; simp
 have gP2 : A2.objs[A.objs.length]? = some (.cells [.d (.str p.name), .d (.slice (p.params.map Pm.row)), .d (.slice (p.body.map Stm.row))]) := by
  rw [n4 _ (by rw [← hq]; omega), hA1]; simp
 have gP : ∀ o, (A2.objs ++ [o])[A.objs.length]? = some (.cells [.d (.str p.name), .d (.slice (p.params.map Pm.row)), .d (.slice (p.body.map Stm.row))]) := fun o => by
  rw [List.getElem?_append_left (by rw [n3]; omega)]; exact gP2
 simp (maxSteps := 1000000) only [go_sem, acondK_bool, c1, k1, a1, k2, s1, f1, n1, gP]
 have hx0 : (⟨q + 2, q, q + 1⟩ : Ids).v = q := rfl
 have hm3 : HM ⟨A2.objs ++ [AObj.cells [.ptr (q + 2) 0]], A2.bufs⟩ ⟨q + 2, q, q + 1⟩ .nilS .nilS .nilS (newS l true [] []) := n2.push _
 have z1 := zip_fst vs p.params hz
 have z2 := zip_snd vs p.params hz
 have z3 : (vs.zip p.params).length = vs.length := by simp [hz]
 have hvl : ∀ z ∈ vs.zip p.params, z.1 ∈ vs := fun z hz => (List.of_mem_zip hz).1
 have hbeg : begR p vs l = { newS l true [] [] with vars := varsR (vs.zip p.params) [] } := rfl
 generalize hzz : vs.zip p.params = zs at *
 have hpl : p.params.length = zs.length := by rw [z3, hz]
 refine loop_any (fun pre => [(38, .v (.d (.int .i64 (pre.length : Nat)))), (1, .v (.d (.slice (vs.map Vl.row)))), (9, .v (.ptr A2.objs.length 0)), (36, .v (.d (.slice (p.params.map Pm.row)))), (4, .v (.ptr A.objs.length 0)), (8, .box [.d (.int .i64 0), .d (.int .i64 0), .nilS, .nilS, .nilS, .nilS, .d (.str []), .d (.int .i64 0)]), (37, .v (.d (.int .i64 (p.params.length : Nat))))])
  (fun pre => ⟨(A2.objs ++ [AObj.cells [.ptr (q + 2) 0]]).set q (.map (mapE (varsR pre []))), A2.bufs⟩) (fun _ _ => some (finR2 (exL p.body (begR p vs l)), A)) zs rfl ?_ rfl ?_
 ·have := hm3.vars
  simp only [newS, mapE, List.map_nil] at this
  simp only [varsR, mapE, List.map_nil]
  rw [set_same this]
 intro pre suf hps ih
 have hb : pre.length < 9223372036854775807 := by rw [hps] at hpl; simp at hpl; omega
 have hmp := hm3.updV (varsR pre [])
 have hcp := hmp.cell
 have hvp := hmp.vars
 unfold mcell at hcp
 simp only at hcp hvp
 have g9 : ((A2.objs ++ [AObj.cells [.ptr (q + 2) 0]]).set q (.map (mapE (varsR pre []))))[A2.objs.length]? = some (.cells [.ptr (q + 2) 0]) := by
  rw [List.getElem?_set_ne (by rw [n3]; omega)]; simp
 cases suf with
 | cons z suf =>
   have e2 := ih z suf rfl
   rw [List.length_append, List.length_cons, List.length_nil] at e2
   simp only [varsR_app, varsR] at e2
   have e3 : (vs.map Vl.row)[pre.length]? = some [.int .i64 z.1.kind, .int .i64 z.1.n, .str z.1.s] := by rw [← z1, hps, List.map_map]; exact map_mid
   have e5 : (p.params.map Pm.row)[pre.length]? = some [.str z.2.name, .int .i64 z.2.type] := by rw [← z2, hps, List.map_map]; exact map_mid
   have e4 : decide ((pre.length : Int) < (p.params.length : Int)) = true := by rw [hpl, hps]; simp; omega
   have up' := aupd_mapE z.2.name z.1 (varsR pre [])
   have pl : aplainV (.agg [.d (.int .i64 z.1.kind), .d (.int .i64 z.1.n), .d (.str z.1.s)]) = true := rfl
   simp only [Vl.av] at up'
   simp (maxSteps := 1000000) only [go_sem, acondK_bool, k_drawn_t, e3, e4, e5, g9, hcp, hvp, up', pl, amuM]
   refine Eq.trans (ctE_ok (by repeat (first | exact MLe.nil | apply MLe.qq | apply MLe.q | apply MLe.o | apply MLe.b | apply MLe.l)) (by kernel_rfl)) ?_
   simp (maxSteps := 1000000) only [go_sem, acondK_bool, List.set_set, e2, wrap_nat hb]
 | nil =>
   rw [List.append_nil] at hps
   have e4 : decide ((pre.length : Int) < (p.params.length : Int)) = false := by rw [hpl, hps]; simp
   simp (maxSteps := 1000000) only [go_sem, acondK_bool, e4]
   have gPs : ((A2.objs ++ [AObj.cells [.ptr (q + 2) 0]]).set q (.map (mapE (varsR pre []))))[A.objs.length]? = some (.cells [.d (.str p.name), .d (.slice (p.params.map Pm.row)), .d (.slice (p.body.map Stm.row))]) := by
    rw [List.getElem?_set_ne (by omega)]; exact gP _
   have hold : ∀ i, i < A.objs.length → ((A2.objs ++ [AObj.cells [.ptr (q + 2) 0]]).set q (.map (mapE (varsR pre []))))[i]? = A.objs[i]? := fun i hi => by
    rw [List.getElem?_set_ne (by omega), List.getElem?_append_left (by rw [n3]; omega), n4 i (by rw [← hq]; omega), hA1]
    simp [List.getElem?_append_left hi]
   have hlen : ((A2.objs ++ [AObj.cells [.ptr (q + 2) 0]]).set q (.map (mapE (varsR pre [])))).length = A2.objs.length + 1 := by simp
   obtain ⟨HF, hHF⟩ : ∃ HF : AHeap, HF = ⟨(A2.objs ++ [AObj.cells [.ptr (q + 2) 0]]).set q (.map (mapE (varsR pre []))), A2.bufs⟩ := ⟨_, rfl⟩
   have hbeg' : begR p vs l = { newS l true [] [] with vars := varsR pre [] } := by rw [hbeg, hps]
   rw [← hHF] at hmp ⊢
   have hHo : HF.objs = (A2.objs ++ [AObj.cells [.ptr (q + 2) 0]]).set q (.map (mapE (varsR pre []))) := by rw [hHF]
   have hHb : HF.bufs = A.bufs := by rw [hHF]; simp only; rw [n5, hA1]
   rw [← hHo] at gPs hold g9 hlen
   have hHS : HS HF ⟨q + 2, q, q + 1⟩ (begR p vs l) := ⟨_, _, _, by rw [hbeg']; exact hmp⟩
   have nou : ∀ t, ¬ used HF ⟨q + 2, q, q + 1⟩ t := fun t hu => by
    obtain ⟨cs, hcs, n, hn⟩ := hu
    rw [hmp.cell] at hcs
    cases hcs
    simp [mcell] at hn
   have pre0 : RunPre HF (q + 2) A2.objs.length A.objs.length ⟨q + 2, q, q + 1⟩ (begR p vs l) p.body S := ⟨rfl, hHS, g9, ⟨_, _, gPs⟩, hSb, hp.bfit, hp.body, hw, hx, by rw [hbeg']; simp [newS]⟩
   obtain ⟨⟨rv, R⟩, hr, hpost⟩ := runD pre0
   have ld0 : aload HF 1 false (.ptr A2.objs.length 0) = some (.ptr (q + 2) 0) := by simp only [aload, g9]; rfl
   have fine := exL_fine S p.body (begR p vs l) hw hx (by rw [hbeg']; simp [newS])
   -- what holds of the end
   have close : ∀ B', Keep HF R ⟨q + 2, q, q + 1⟩ → Rest4 R B' ⟨q + 2, q, q + 1⟩ → B'.objs.take A.objs.length = A.objs ∧ B'.bufs.take A.bufs.length = A.bufs ∧ aload R 1 false (.ptr A2.objs.length 0) = some (.ptr (q + 2) 0) ∧ aload B' 1 false (.ptr A2.objs.length 0) = some (.ptr (q + 2) 0) := fun B' k r4 => by
    have ne9 : A2.objs.length ≠ q + 2 ∧ A2.objs.length ≠ q ∧ A2.objs.length ≠ q + 1 := by rw [n3]; omega
    have o9 : R.objs[A2.objs.length]? = some (.cells [.ptr (q + 2) 0]) := by rw [k.objs _ (by rw [hlen]; omega) ne9.1 ne9.2.1 ne9.2.2]; exact g9
    refine ⟨?_, ?_, by simp only [aload, o9]; rfl, by simp only [aload, r4.objs, o9]; rfl⟩
    ·apply List.ext_getElem?
     intro i
     rw [List.getElem?_take]
     split
     ·rename_i hi
      rw [r4.objs, k.objs i (by rw [hlen, n3]; omega) (by simp only; omega) (by simp only; omega) (by simp only; omega), hold i hi]
     ·rw [List.getElem?_eq_none (by omega)]
    ·apply List.ext_getElem?
     intro t
     rw [List.getElem?_take]
     split
     ·rename_i ht
      have hb : HF.bufs[t]? = some A.bufs[t] := by rw [hHb]; exact List.getElem?_eq_getElem ht
      obtain ⟨b1, b2⟩ := k.bufs t _ hb (nou t)
      rw [r4.bufs t (List.getElem?_eq_some_iff.1 b1).1 b2, b1, List.getElem?_eq_getElem ht]
     ·rw [List.getElem?_eq_none (by omega)]
   have av1 : ∀ st code o r w ws miss steps, nice (effAV st code o r w ws miss steps) := fun _ _ _ _ _ _ _ _ => ⟨rfl, rfl, rfl⟩
   cases hxx : exL p.body (begR p vs l) with
   | ok m' =>
     rw [hxx] at hpost fine
     obtain ⟨r1, r2, r3, r4⟩ := hpost
     simp only at r1 r2 r3 r4
     subst r1
     obtain ⟨B', f1, f2⟩ := finishC r3 (by have := fine.1.wrl; omega)
     have f1 := up f1
     obtain ⟨t1, t2, ldA, ldB⟩ := close B' r4 f2
     have fin := fin_data (f := 22) rfl (v := effAV 1 0 (m'.out.map Vl.row) (srow m'.reads) (srow m'.writes) (putsR m'.own m'.writes) [] m'.steps) (av1 _ _ _ _ _ _ _ _) t1 t2
     simp only [Stp.av, noS] at hr f1
     unfold effAV at f1 fin
     simp only [finR2, effAV]
     simp (maxSteps := 1000000) only [go_sem, acondK_bool, k_drawn_t, g9, hr, f1]
     refine Eq.trans (ctE_free (free := [0]) (by repeat (first | exact MLe.nil | apply MLe.qq | apply MLe.q | apply MLe.o | apply MLe.b | apply MLe.l)) ?_ (by kernel_rfl)) ?_
     ·intro m' hm' hi
      simp only [List.nil_append, List.append_assoc, List.cons_append, List.mem_cons, List.not_mem_nil, or_false] at hm'
      rcases hm' with rfl | rfl | rfl | rfl | rfl | rfl | rfl | rfl
      all_goals first | (exact absurd hi Bool.false_ne_true) | skip
      refine ⟨1, false, .ptr A2.objs.length 0, rfl, ?_⟩
      intro mm hmm
      simp only [List.nil_append, List.append_assoc, List.cons_append, List.mem_cons, List.not_mem_nil, or_false] at hmm
      rcases hmm with rfl | rfl | rfl | rfl | rfl | rfl | rfl | rfl
      all_goals simp only [achg, ld0, ldA, ldB, ne_eq, not_true_eq_false, not_false_eq_true]
     ·simp (maxSteps := 1000000) only [go_sem, acondK_bool, fin]
   | stop z m' =>
     rw [hxx] at hpost fine
     obtain ⟨r1, r2, r3, r4⟩ := hpost
     simp only at r1 r2 r3 r4
     subst r1
     obtain ⟨B', f1, f2⟩ := finishE r3 z
     have f1 := up f1
     obtain ⟨t1, t2, ldA, ldB⟩ := close B' r4 f2
     have fin := fin_data (f := 22) rfl (v := effAV z.st z.code [] (srow m'.reads) (srow m'.writes) [] z.miss m'.steps) (av1 _ _ _ _ _ _ _ _) t1 t2
     simp only [Stp.av] at hr f1
     unfold effAV at f1 fin
     simp only [finR2, effAV]
     simp (maxSteps := 1000000) only [go_sem, acondK_bool, k_drawn_t, g9, hr, f1]
     refine Eq.trans (ctE_free (free := [0]) (by repeat (first | exact MLe.nil | apply MLe.qq | apply MLe.q | apply MLe.o | apply MLe.b | apply MLe.l)) ?_ (by kernel_rfl)) ?_
     ·intro m' hm' hi
      simp only [List.nil_append, List.append_assoc, List.cons_append, List.mem_cons, List.not_mem_nil, or_false] at hm'
      rcases hm' with rfl | rfl | rfl | rfl | rfl | rfl | rfl | rfl
      all_goals first | (exact absurd hi Bool.false_ne_true) | skip
      refine ⟨1, false, .ptr A2.objs.length 0, rfl, ?_⟩
      intro mm hmm
      simp only [List.nil_append, List.append_assoc, List.cons_append, List.mem_cons, List.not_mem_nil, or_false] at hmm
      rcases hmm with rfl | rfl | rfl | rfl | rfl | rfl | rfl | rfl
      all_goals simp only [achg, ld0, ldA, ldB, ne_eq, not_true_eq_false, not_false_eq_true]
     ·simp (maxSteps := 1000000) only [go_sem, acondK_bool, fin]
end Go.Proofs.YtpbdjgdmhfibmaaGreatDoor
-- CTX D
set_option linter.all false
namespace Go.Proofs.YtpbdjgdmhfibmaaGreatDoor
open Go.Abs
attribute [local congr] ite_congr
set_option maxRecDepth 100000
def freeS (p : Pr) (vs : List Vl) (l : List Kv) : AV := if runOk p vs l = true then finR2 (exL p.body (begR p vs l)) else wrongAV
structure ArgsOk (p : Pr) (vs : List Vl) (l : List Kv) : Prop where
 hp : p.Ok
 h40 : p.params.length ≤ 40
 hv : ∀ v ∈ vs, v.Ok
 hl : l.length ≤ 1099511627776
 hk : ∀ x ∈ l, x.key.length ≤ 1099511627776 ∧ x.v.s.length ≤ 1099511627776
 hS : ∃ S, S ≤ 33554432 ∧ (runOk p vs l = true → slW S p.body ∧ XI S (begR p vs l) 0)
theorem runP {p : Pr} {vs : List Vl} {l : List Kv} (h : ArgsOk p vs l) (A : AHeap) : acl D 22 [Pr.av p, .d (.slice (vs.map Vl.row)), .d (.slice (l.map Kv.row)), .agg [.d (.bool true), .d (.slice []), .d (.slice [])]] A = some (freeS p vs l, A) := by
 unfold freeS
 cases hr : runOk p vs l with
 | false => exact run_wrong p h.hp h.h40 vs h.hv l h.hl h.hk A hr
 | true =>
   obtain ⟨S, h1, h2⟩ := h.hS
   exact run_goes p h.hp h.h40 vs h.hv l h.hl h.hk A hr h1 (h2 hr).1 (h2 hr).2
theorem acl_cleanE {f : FuncId} {fn : Func} {code : Code} {args args' : List AV} {A : AHeap} (hg : D.ext f = none) (hf : D.P.funcs[f]? = some fn) (hb : fn.body = some code) (hk : fnOk D.P f = true) (hn : args.length ≤ fn.ntmps) (hn' : args'.length ≤ fn.ntmps)
  (ho : D.own f = false) (key : acleanVs A args = (args', A)) (key' : acleanVs A args' = (args', A)) : acl D f args A = acl D f args' A := by
 rw [acl_eq hg hf hb hk hn, acl_eq hg hf hb hk hn']
 simp only [ho, Bool.false_eq_true, if_false, key, key']
theorem run_clean (a b d : AV) (A : AHeap) (ha : ∀ A, acleanV A a = (a, A)) (hb : ∀ A, acleanV A b = (b, A)) (hd : ∀ A, acleanV A d = (d, A)) : acl D 22 [a, b, d, .agg [.d (.bool true), .nilS, .nilS]] A = acl D 22 [a, b, d, .agg [.d (.bool true), .d (.slice []), .d (.slice [])]] A := by
 refine acl_cleanE rfl Tryz.func22 rfl (ok 22 (by kernel_rfl)) (show 4 ≤ Tryz.f22.ntmps by decide) (show 4 ≤ Tryz.f22.ntmps by decide) rfl ?_ ?_
 ·simp only [acleanVs, ha, hb, hd]; rfl
 ·simp only [acleanVs, ha, hb, hd]; rfl
theorem freeS_eff (p : Pr) (vs : List Vl) (l : List Kv) : ∃ st code o r w ws miss steps, freeS p vs l = effAV st code o r w ws miss steps := by
 unfold freeS
 split
 ·cases exL p.body (begR p vs l) with
  | ok m => exact ⟨_, _, _, _, _, _, _, _, rfl⟩
  | stop z m => exact ⟨_, _, _, _, _, _, _, _, rfl⟩
 ·exact ⟨_, _, _, _, _, _, _, _, rfl⟩
theorem freeP {p : Pr} {vs : List Vl} {l : List Kv} (h : ArgsOk p vs l) (A : AHeap) : acl D 9 [Pr.av p, .d (.slice (vs.map Vl.row)), .d (.slice (l.map Kv.row))] A = some (freeS p vs l, A) := by
 have r := runP h A
 rw [k_call (c := D) (f := 9) rfl Tryz.func9 rfl (ok 9 (by kernel_rfl)) rfl Tryz.ntmps9 Tryz.results9 (by simp)]
 have rc := run_clean (.agg [.d (.str p.name), .d (.slice (p.params.map Pm.row)), .d (.slice (p.body.map Stm.row))]) (.d (.slice (vs.map Vl.row))) (.d (.slice (l.map Kv.row))) A (fun _ => rfl) (fun _ => rfl) (fun _ => rfl)
 rw [show Pr.av p = .agg [.d (.str p.name), .d (.slice (p.params.map Pm.row)), .d (.slice (p.body.map Stm.row))] from rfl] at r
 rw [r] at rc
 obtain ⟨st, code, o, rd, w, ws, miss, steps, he⟩ := freeS_eff p vs l
 have fin := fin_data (f := 9) rfl (v := effAV st code o rd w ws miss steps) ⟨rfl, rfl, rfl⟩ (A := A) (B := A) (by simp) (by simp)
 rw [he] at rc ⊢
 unfold effAV at rc fin ⊢
 simp (maxSteps := 1000000) only [go_sem, acondK_bool, rc, fin]
end Go.Proofs.YtpbdjgdmhfibmaaGreatDoor
set_option linter.all false
namespace Go.Proofs.YtpbdjgdmhfibmaaGreatDoor
open Go.Abs
theorem plain64 {s : Bytes} (h : plainS s = true) : s.length ≤ 64 := by
 unfold plainS at h
 simp only [Bool.and_eq_true, decide_eq_true_eq] at h
 omega
theorem name16 {s : Bytes} (h : isName s = true) : s.length ≤ 16 ∧ s ≠ [] := by
 unfold isName at h
 split at h
 ·cases h
 ·simp only [Bool.and_eq_true, decide_eq_true_eq] at h
  refine ⟨by omega, by simp⟩
theorem node_zero {op n : Int} {s : Bytes} {len : Nat} {d : Int} (h : nodeS op n s len d = 0) : s.length ≤ 64 ∧ (len : Int) = ar op := by
 unfold nodeS at h
 split at h
 ·cases h
 rename_i h1
 split at h
 ·cases h
 rename_i h2
 split at h
 ·cases h
 rename_i h3
 simp only [Bool.or_eq_true, Bool.and_eq_true, not_or, not_and, Bool.not_eq_true', Bool.not_eq_true, decide_eq_false_iff_not, decide_eq_true_eq, Decidable.not_not, Bool.not_eq_false, beq_eq_false_iff_ne, beq_iff_eq] at h1 h2 h3
 refine ⟨?_, by simpa using h3.2⟩
 by_cases e2 : op = 2
 ·exact plain64 (h3.1.2 e2)
 ·by_cases e3 : op = 3
  ·have := name16 (h2 e3); omega
  ·have hs : s = [] := by simpa using h1.2 ⟨e2, e3⟩
   subst hs; simp
theorem ar_one {op : Int} (h : ar op = 1) : op = 9 ∨ op = 18 ∨ op = 20 ∨ op = 21 ∨ acs op = true := by
 unfold ar at h
 split at h
 ·omega
 split at h
 ·omega
 split at h
 ·rename_i h1 h2 h3
  by_cases e : op = 22 ∨ op = 23 ∨ op = 24
  ·refine .inr (.inr (.inr (.inr ?_)))
   unfold acs
   simp only [Bool.or_eq_true, decide_eq_true_eq]
   omega
  ·omega
 ·omega
theorem chk_parts {op n : Int} {s : Bytes} {args : List E} {d : Int} (h : chkE (.mk op n s args) d = 0) : nodeS op n s args.length d = 0 ∧ chkL args (IntKind.i64.wrap (d + 1)) = 0 := by
 rw [chkE] at h
 by_cases hn : nodeS op n s args.length d = 0
 ·rw [if_pos hn] at h; exact ⟨hn, h⟩
 ·rw [if_neg hn] at h; exact absurd h hn
theorem chkL_parts {x : E} {l : List E} {d : Int} (h : chkL (x :: l) d = 0) : chkE x d = 0 ∧ chkL l d = 0 := by
 rw [chkL] at h
 by_cases hx : chkE x d = 0
 ·rw [if_pos hx] at h; exact ⟨hx, h⟩
 ·rw [if_neg hx] at h; exact absurd h hx
mutual
theorem lit_of : ∀ (e : E) (d : Int), e.Ok → chkE e d = 0 → litE e ∧ unE e
 | .mk op n s args, d, ho, h => by
   obtain ⟨h1, h2⟩ := chk_parts h
   obtain ⟨h3, h4⟩ := node_zero h1
   have hn : i64 n := by cases ho; assumption
   obtain ⟨q1, q2⟩ := lit_ofL args _ (fun x hx => ho.arg x hx) h2
   simp only [litE, unE]
   refine ⟨⟨hn, h3, q1⟩, fun hl => ar_one (by omega), q2⟩
theorem lit_ofL : ∀ (l : List E) (d : Int), (∀ x ∈ l, x.Ok) → chkL l d = 0 → litL l ∧ unEs l
 | [], _, _, _ => ⟨trivial, trivial⟩
 | x :: l, d, ho, h => by
   obtain ⟨h1, h2⟩ := chkL_parts h
   obtain ⟨a1, a2⟩ := lit_of x d (ho x (by simp)) h1
   obtain ⟨b1, b2⟩ := lit_ofL l d (fun y hy => ho y (by simp [hy])) h2
   simp only [litL, unEs]
   exact ⟨⟨a1, b1⟩, a2, b2⟩
end
theorem lit_abs : ∀ {e : E}, absE e = true → litE e ∧ unE e ∧ nodE e = 1
 | .mk op n s args, h => by
   have h' : absentS op n s args.length = true := h
   unfold absentS at h'
   simp only [Bool.and_eq_true, decide_eq_true_eq, beq_iff_eq] at h'
   obtain ⟨⟨⟨h1, h2⟩, h3⟩, h4⟩ := h'
   have h5 : args = [] := List.eq_nil_of_length_eq_zero (by omega)
   subst h2 h3 h5
   simp only [litE, unE, litL, unEs, nodE, nodL]
   refine ⟨⟨by unfold i64; omega, by simp, trivial⟩, ⟨fun h => by simp at h, trivial⟩, trivial⟩
mutual
theorem nod_vis : ∀ (e : E) (r : Bool), (visE e r).length = nodE e
 | .mk op n s args, r => by simp only [visE, nodE, List.length_cons, nod_visL args]
theorem nod_visL : ∀ (l : List E), (visEs l).length = nodL l
 | [] => rfl
 | x :: l => by simp only [visEs, nodL, List.length_append, nod_vis x, nod_visL l]
end
theorem opt_of {e : E} (ho : e.Ok) (hc : chkE e 1 = 0 ∨ absE e = true) : litE e ∧ unE e ∧ nodE e ≤ (if absE e = true then [] else visE e true).length + 1 := by
 by_cases ha : absE e = true
 ·obtain ⟨h1, h2, h3⟩ := lit_abs ha
  exact ⟨h1, h2, by omega⟩
 ·rcases hc with hc | hc
  ·obtain ⟨h1, h2⟩ := lit_of e 1 ho hc
   rw [if_neg ha, nod_vis]
   exact ⟨h1, h2, by omega⟩
  ·exact absurd hc ha
mutual
theorem w_of : ∀ (x : Stm) (d : Int), x.Ok → (∀ y k, Vis.s y k ∈ visS x d → StmOk y k) → (visS x d).length ≤ 400 → stW 1000 x ∧ frmS x
 | .mk op name max a b body els, d, ho, hk, hl => by
   have k0 := hk _ d (by rw [visS]; exact List.mem_cons_self ..)
   obtain ⟨oa, ob, o1, o2⟩ : a.Ok ∧ b.Ok ∧ (∀ x, x ∈ body → Stm.Ok x) ∧ (∀ x, x ∈ els → Stm.Ok x) := by
    cases ho; exact ⟨by assumption, by assumption, by assumption, by assumption⟩
   rw [visS] at hl
   simp only [List.length_cons, List.length_append] at hl
   have ca : chkE a 1 = 0 ∨ absE a = true := by
    cases h : uA op with
    | true => exact .inl (k0.a h)
    | false => exact .inr (k0.na h)
   have cb : chkE b 1 = 0 ∨ absE b = true := by
    cases h : uB op with
    | true => exact .inl (k0.b h)
    | false => exact .inr (k0.nb h)
   obtain ⟨a1, a2, a3⟩ := opt_of oa ca
   obtain ⟨b1, b2, b3⟩ := opt_of ob cb
   obtain ⟨e1, e2⟩ := w_ofL body _ o1 (fun y k hy => hk y k (by rw [visS]; simp only [List.mem_cons, List.mem_append]; exact .inr (.inr (.inr (.inl hy))))) (by omega)
   obtain ⟨f1, f2⟩ := w_ofL els _ o2 (fun y k hy => hk y k (by rw [visS]; simp only [List.mem_cons, List.mem_append]; exact .inr (.inr (.inr (.inr hy))))) (by omega)
   simp only [stW, frmS]
   refine ⟨⟨a1, b1, by omega, e1, f1⟩, a2, b2, fun h => ?_, fun h5 h6 => ?_, fun h5 h6 => ?_, e2, f2⟩
   ·exact (name16 (k0.name (by unfold uN; simp only [Bool.or_eq_true, decide_eq_true_eq]; exact .inl h))).2
   ·exact k0.nbody (by show uBo op = false; unfold uBo; simp [h5, h6])
   ·exact k0.nels (by show uO op = false; unfold uO; simp [h5])
theorem w_ofL : ∀ (l : List Stm) (d : Int), (∀ x, x ∈ l → Stm.Ok x) → (∀ y k, Vis.s y k ∈ visSs l d → StmOk y k) → (visSs l d).length ≤ 400 → slW 1000 l ∧ frmSs l
 | [], _, _, _, _ => ⟨trivial, trivial⟩
 | x :: l, d, ho, hk, hl => by
   rw [visSs] at hl
   simp only [List.length_append] at hl
   obtain ⟨a1, a2⟩ := w_of x d (ho x (by simp)) (fun y k hy => hk y k (by rw [visSs]; exact List.mem_append_left _ hy)) (by omega)
   obtain ⟨b1, b2⟩ := w_ofL l d (fun y hy => ho y (by simp [hy])) (fun y k hy => hk y k (by rw [visSs]; exact List.mem_append_right _ hy)) (by omega)
   simp only [slW, frmSs]
   exact ⟨⟨a1, b1⟩, a2, b2⟩
end
theorem w_proc {p : Pr} (hp : p.Ok) (V : Vld p) : slW 1000 p.body ∧ frmSs p.body :=
 w_ofL p.body 1 hp.body (fun y k hy => stmtS_zero (V.stm y k hy)) V.len
theorem val_ok {v : Vl} (ho : v.Ok) (h : valV v = true) : VOk v := by
 refine ⟨ho.kind, ho.n, ?_⟩
 unfold valV at h
 split at h
 ·simp only [Bool.and_eq_true, beq_iff_eq] at h
  rw [h.2]; simp
 split at h
 ·simp only [beq_iff_eq] at h
  rw [h]; simp
 split at h
 ·simp only [Bool.and_eq_true] at h
  exact plain64 h.2
 ·cases h
theorem srt_val : ∀ (l : List Kv) (pv : Option Bytes), srtS pv l = true → ∀ x ∈ l, valV x.v = true
 | [], _, _, x, hx => by cases hx
 | y :: l, pv, h, x, hx => by
   simp only [srtS, Bool.and_eq_true] at h
   rcases List.mem_cons.1 hx with rfl | hx
   ·exact h.2.1
   ·exact srt_val l _ h.2.2.2 x hx
theorem zeroV_fine : VOk zeroV := ⟨i64_0, i64_0, by simp [zeroV]⟩
theorem get_ok : ∀ (l : List Kv) (k : Bytes), (∀ x ∈ l, VOk x.v) → VOk (getS l k)
 | [], _, _ => zeroV_fine
 | y :: l, k, h => by
   unfold getS
   split
   ·exact h y (by simp)
   ·exact get_ok l k fun x hx => h x (by simp [hx])
theorem fit_ok {v : Vl} {t : Int} (ho : v.Ok) (h : fitS v t = true) : VOk v := by
 refine ⟨ho.kind, ho.n, ?_⟩
 unfold fitS at h
 split at h
 ·simp only [Bool.and_eq_true, beq_iff_eq] at h
  rw [h.2]; simp
 ·simp only [Bool.and_eq_true] at h
  exact plain64 h.2
theorem vars_ok : ∀ (z : List (Vl × Pm)) (l : List (Bytes × Vl)), (∀ x ∈ z, VOk x.1) → (∀ k v, lookE l k = some v → VOk v) → ∀ k v, lookE (varsR z l) k = some v → VOk v
 | [], _, _, h, k, v, hk => h k v hk
 | x :: z, l, hz, h, k, v, hk => by
   refine vars_ok z _ (fun y hy => hz y (by simp [hy])) (fun j w hj => ?_) k v hk
   simp only [look_set] at hj
   split at hj
   ·cases hj; exact hz x (by simp)
   ·exact h j w hj
theorem args_fit {p : Pr} {vs : List Vl} (h : argsS p vs = 0) (hv : ∀ v ∈ vs, v.Ok) : ∀ x ∈ vs.zip p.params, VOk x.1 := by
 unfold argsS at h
 split at h
 ·cases h
 split at h
 ·rename_i hall
  intro x hx
  exact fit_ok (hv _ (List.of_mem_zip hx).1) (List.all_eq_true.1 hall x hx)
 ·cases h
theorem run_facts {p : Pr} {vs : List Vl} {l : List Kv} (h : runOk p vs l = true) : costC p = 0 ∧ argsS p vs = 0 ∧ stV l = true := by
 unfold runOk at h
 simp only [Bool.and_eq_true, decide_eq_true_eq] at h
 exact h
theorem cost_vld {p : Pr} (h : costC p = 0) : Vld p := by
 unfold costC at h
 split at h
 ·rename_i h1
  exact det_vld (by simpa using h1)
 ·rename_i h1
  simp only [decide_eq_true_eq] at h1
  exact absurd h h1
theorem argsOk_of {p : Pr} {vs : List Vl} {l : List Kv} (hp : p.Ok) (h40 : p.params.length ≤ 40) (hv : ∀ v ∈ vs, v.Ok) (hl : l.length ≤ 1048576) (hk : ∀ x ∈ l, x.key.length ≤ 1099511627776 ∧ x.v.Ok) : ArgsOk p vs l := by
 refine ⟨hp, h40, hv, by omega, fun x hx => ⟨(hk x hx).1, (hk x hx).2.s⟩, 1000, by decide, fun hr => ?_⟩
 obtain ⟨h1, h2, h3⟩ := run_facts hr
 have hst : srtS none l = true := by
  unfold stV at h3
  simp only [Bool.and_eq_true] at h3
  exact h3.1
 refine ⟨(w_proc hp (cost_vld h1)).1, ⟨vars_ok _ _ (args_fit h2 hv) (fun k v h => (by cases h)), fun k v h => (by cases h), fun k => get_ok l k fun x hx => val_ok (hk x hx).2 (srt_val l none hst x hx), ?_, ?_, ?_, ?_, ?_, ?_, ?_, ?_⟩⟩
 all_goals simp [begR, newS]
 omega
theorem two_runs {p : Pr} {vs : List Vl} {l k : List Kv} (hp : p.Ok) (hi : indD p = true) (hb : brnD p = false) (hl : runOk p vs l = true) :
  RR (clnS p) (exL p.body (begR p vs l)) (exL p.body (begR p vs k)) := by
 have V := cost_vld (run_facts hl).1
 unfold indD at hi
 unfold brnD at hb
 simp only [Bool.and_eq_true, decide_eq_true_eq, Bool.not_eq_true'] at hi
 have hb' : brnL (clnS p) p.body = false := by simpa [hi.1] using hb
 exact exL_rr p.body ⟨fun _ _ => rfl, fun _ => rfl, rfl, rfl, rfl, rfl⟩ (w_proc hp V).2 hi.2 hb' (cln_rest p)
def Oc.ns : Oc → Prop
 | .ok _ => True
 | .stop z => z.st ≠ 1
def Rv.ns : Rv → Prop
 | .ok _ _ => True
 | .stop z _ => z.st ≠ 1
def Rl.ns : Rl → Prop
 | .ok _ _ => True
 | .stop z _ => z.st ≠ 1
def Rx.ns : Rx → Prop
 | .ok _ => True
 | .stop z _ => z.st ≠ 1
theorem abt_ns (n : Int) : (abt n).st ≠ 1 := by show (2 : Int) ≠ 1; decide
theorem rst_ns (k : Bytes) : (rst k).st ≠ 1 := by show (3 : Int) ≠ 1; decide
theorem at_ns {o : Oc} {m : Mc} (h : o.ns) : (o.atV m).ns := by cases o <;> exact h
theorem exact_ns (r : Int × Int) : (exactS r).ns := by
 unfold exactS
 split
 ·trivial
 split <;> exact abt_ns _
theorem text_ns (s : Bytes) : (textS s).ns := by
 unfold textS
 split
 ·exact abt_ns _
 ·trivial
theorem got_ns (op : Int) (r : Vl) : (gotS op r).ns := by
 unfold gotS
 repeat' split
 all_goals first | trivial | exact abt_ns _
theorem bin_ns (op : Int) (a b : Vl) : (binSV op a b).ns := by
 unfold binSV
 split
 ·split
  ·exact exact_ns _
  ·exact abt_ns _
 split
 ·split
  ·trivial
  ·exact abt_ns _
 split
 ·split
  ·trivial
  ·exact abt_ns _
 split
 ·split
  ·exact text_ns _
  ·exact abt_ns _
 ·unfold compareS
  split
  ·trivial
  ·exact abt_ns _
theorem un_ns (m : Mc) (op : Int) (v : Vl) : (unV m op v).ns := by
 unfold unV
 split
 ·split
  ·exact at_ns (exact_ns _)
  ·exact abt_ns _
 split
 ·split
  ·trivial
  ·exact abt_ns _
 split
 ·split
  ·exact at_ns (text_ns _)
  ·exact abt_ns _
 split
 ·split
  ·trivial
  ·exact abt_ns _
 unfold getterV
 split
 ·split
  ·split
   ·exact at_ns (got_ns _ _)
   ·split
    ·exact rst_ns _
    ·exact at_ns (got_ns _ _)
  ·exact abt_ns _
 ·exact abt_ns _
theorem ap_ns (op : Int) (m : Mc) : ∀ vs : List Vl, (apV op vs m).ns
 | [] => abt_ns _
 | [v] => un_ns m op v
 | [_, _] => at_ns (bin_ns _ _ _)
 | _ :: _ :: _ :: _ => abt_ns _
mutual
theorem ev_ns : ∀ (e : E) (m : Mc), (evE e m).ns
 | .mk op k s args, m => by
   simp only [evE]
   split
   ·trivial
   split
   ·trivial
   split
   ·split
    ·trivial
    ·exact abt_ns _
   have h := evL_ns args m
   split
   ·exact ap_ns op _ _
   ·rename_i z m1 he
    rw [he] at h
    exact h
theorem evL_ns : ∀ (l : List E) (m : Mc), (evL l m).ns
 | [], m => trivial
 | e :: l, m => by
   simp only [evL]
   have h := ev_ns e m
   split
   ·rename_i v m1 he
    have h2 := evL_ns l m1
    split
    ·trivial
    ·rename_i z m2 he2
     rw [he2] at h2
     exact h2
   ·rename_i z m1 he
    rw [he] at h
    exact h
end
theorem ns_bind {r : Rx} {f : Mc → Rx} (h : r.ns) (hf : ∀ m, (f m).ns) : (r.bind f).ns := by
 cases r with
 | ok a => exact hf a
 | stop z a => exact h
theorem ns_ev {e : E} {m : Mc} {f : Vl → Mc → Rx} (hf : ∀ v m, (f v m).ns) : ((evE e m).bind f).ns := by
 have h := ev_ns e m
 cases hr : evE e m with
 | ok v a => exact hf v a
 | stop z a => rw [hr] at h; exact h
theorem ns_must {b : Bool} {m : Mc} {r : Rx} (h : r.ns) : (mustR b m r).ns := by
 unfold mustR
 split
 ·exact h
 ·exact abt_ns _
theorem ns_store (m : Mc) (k : Bytes) (v : Vl) : (storeR m k v).ns := by
 unfold storeR
 split
 ·split
  ·exact rst_ns _
  ·trivial
 ·exact abt_ns _
theorem ns_emit (m : Mc) (v : Vl) : (emitR m v).ns := by
 unfold emitR
 split
 ·exact abt_ns _
 ·trivial
theorem ns_tick (m : Mc) : (tickR m).ns := by
 unfold tickR
 split
 ·exact abt_ns _
 ·trivial
theorem ns_loop {f : Mc → Rx} (hf : ∀ m, (f m).ns) (name : Bytes) : ∀ (n : Nat) (i : Int) (m : Mc), (loopR f name n i m).ns
 | 0, _, m => trivial
 | n + 1, i, m => by
   simp only [loopR]
   exact ns_bind (ns_tick m) fun m1 => ns_bind (hf _) fun m2 => ns_loop hf name n (i + 1) m2
mutual
theorem exS_ns : ∀ (s : Stm) (m : Mc), (exS s m).ns
 | .mk op name max a b body els, m => by
   simp only [exS]
   split
   ·exact ns_ev fun v m => trivial
   split
   ·exact ns_ev fun k m => ns_ev fun v m => ns_must (ns_store m k.s v)
   split
   ·exact ns_ev fun k m => ns_must (ns_store m k.s zeroV)
   split
   ·refine ns_ev fun c m => ns_must ?_
    split
    ·exact exL_ns body m
    ·exact exL_ns els m
   split
   ·refine ns_ev fun lo m => ns_ev fun hi m => ns_must ?_
    split
    ·exact abt_ns _
    ·exact ns_loop (fun m => exL_ns body m) name _ _ m
   split
   ·exact ns_ev fun v m => ns_must (ns_emit m v)
   split
   ·exact abt_ns _
   ·trivial
theorem exL_ns : ∀ (l : List Stm) (m : Mc), (exL l m).ns
 | [], m => trivial
 | x :: l, m => by
   simp only [exL]
   exact ns_bind (ns_tick m) fun m1 => ns_bind (exS_ns x m1) fun m2 => exL_ns l m2
end
def wthS (a b : List Bytes) : Bool := a.all fun x => b.any fun y => y == x
theorem wth_of {a b : List Bytes} (h : ∀ k ∈ a, k ∈ b) : wthS a b = true := by
 unfold wthS
 refine List.all_eq_true.2 fun x hx => List.any_eq_true.2 ⟨x, h x hx, by simp⟩
structure EffIs (v : AV) (st : Int) (R W : List Bytes) : Prop where
 eq : ∃ code o ws miss steps, v = effAV st code o (srow R) (srow W) ws miss steps
theorem fin_is (r : Rx) : ∃ st, EffIs (finR2 r) st r.mc.reads r.mc.writes ∧ (∀ z m, r = .stop z m → st = z.st) := by
 cases r with
 | ok m => exact ⟨1, ⟨_, _, _, _, _, rfl⟩, fun z m h => by cases h⟩
 | stop z m => exact ⟨z.st, ⟨_, _, _, _, _, rfl⟩, fun z m h => by cases h; rfl⟩
theorem reads_len {p : Pr} {vs : List Vl} {l : List Kv} (h : ArgsOk p vs l) (hr : runOk p vs l = true) : (exL p.body (begR p vs l)).mc.reads.length ≤ 1099511627776 ∧ (exL p.body (begR p vs l)).mc.writes.length ≤ 1099511627776 := by
 obtain ⟨S, h1, h2⟩ := h.hS
 obtain ⟨h2, h3⟩ := h2 hr
 have big : S * 16385 ≤ 1099511627776 := Nat.le_trans (Nat.mul_le_mul_right 16385 h1) (by decide)
 have f := exL_fine S p.body (begR p vs l) h2 h3 (by simp [begR, newS])
 cases hx : exL p.body (begR p vs l) with
 | ok m =>
   rw [hx] at f
   have := f.1.rdl
   have := f.1.wrl
   simp only [Rx.mc]
   omega
 | stop z m =>
   rw [hx] at f
   have := XI.rdl f
   have := XI.wrl f
   simp only [Rx.mc]
   omega
theorem effs_two {p : Pr} {vs : List Vl} {l k : List Kv} (h1 : ArgsOk p vs l) (h2 : ArgsOk p vs k) (hi : indD p = true) (hb : brnD p = false) :
  ∃ s1 R1 W1 s2 R2 W2, EffIs (freeS p vs l) s1 R1 W1 ∧ EffIs (freeS p vs k) s2 R2 W2 ∧ R1.length ≤ 1099511627776 ∧ W1.length ≤ 1099511627776 ∧ R2.length ≤ 1099511627776 ∧ W2.length ≤ 1099511627776 ∧
    ((wthS R1 R2 && wthS W1 W2) || (wthS R2 R1 && wthS W2 W1)) = true ∧ (s1 = 1 → s2 = 1 → ((wthS R1 R2 && wthS W1 W2) && (wthS R2 R1 && wthS W2 W1)) = true) := by
 have wr : ∀ b, wthS [] b = true := fun b => rfl
 have wrong : EffIs wrongAV 2 [] [] := ⟨_, _, _, _, _, rfl⟩
 cases r1 : runOk p vs l with
 | false =>
   have e1 : freeS p vs l = wrongAV := by unfold freeS; rw [r1]; rfl
   cases r2 : runOk p vs k with
   | false =>
     have e2 : freeS p vs k = wrongAV := by unfold freeS; rw [r2]; rfl
     rw [e1, e2]
     exact ⟨2, [], [], 2, [], [], wrong, wrong, by simp, by simp, by simp, by simp, rfl, fun _ _ => rfl⟩
   | true =>
     have e2 : freeS p vs k = finR2 (exL p.body (begR p vs k)) := by unfold freeS; rw [r2]; rfl
     obtain ⟨st, f1, f2⟩ := fin_is (exL p.body (begR p vs k))
     obtain ⟨g1, g2⟩ := reads_len h2 r2
     rw [e1, e2]
     exact ⟨2, [], [], st, _, _, wrong, f1, by simp, by simp, g1, g2, by simp [wr], fun h => by omega⟩
 | true =>
   have e1 : freeS p vs l = finR2 (exL p.body (begR p vs l)) := by unfold freeS; rw [r1]; rfl
   obtain ⟨st, f1, f2⟩ := fin_is (exL p.body (begR p vs l))
   obtain ⟨g1, g2⟩ := reads_len h1 r1
   cases r2 : runOk p vs k with
   | false =>
     have e2 : freeS p vs k = wrongAV := by unfold freeS; rw [r2]; rfl
     rw [e1, e2]
     exact ⟨st, _, _, 2, [], [], f1, wrong, g1, g2, by simp, by simp, by simp [wr], fun _ h => by omega⟩
   | true =>
     have e2 : freeS p vs k = finR2 (exL p.body (begR p vs k)) := by unfold freeS; rw [r2]; rfl
     obtain ⟨st', f1', f2'⟩ := fin_is (exL p.body (begR p vs k))
     obtain ⟨g1', g2'⟩ := reads_len h2 r2
     rw [e1, e2]
     refine ⟨st, _, _, st', _, _, f1, f1', g1, g2, g1', g2', ?_⟩
     have t := two_runs (k := k) h1.hp hi hb r1
     have n1 := exL_ns p.body (begR p vs l)
     have n2 := exL_ns p.body (begR p vs k)
     have sub1 : ∀ {a b : Mc}, Sub a b → (wthS a.reads b.reads && wthS a.writes b.writes) = true := fun h => by
      rw [wth_of h.reads, wth_of h.writes]; rfl
     cases x1 : exL p.body (begR p vs l) with
     | ok m1 =>
       cases x2 : exL p.body (begR p vs k) with
       | ok m2 =>
         rw [x1, x2] at t
         simp only [Rx.mc]
         have a := sub1 (Sim.sub t)
         have b := sub1 (Sim.bus t)
         rw [a, b]
         exact ⟨rfl, fun _ _ => rfl⟩
       | stop z m2 =>
         rw [x1, x2] at t
         rw [x2] at n2 f2'
         have e := f2' z m2 rfl
         simp only [Rx.mc]
         have b := sub1 t
         rw [b]
         exact ⟨by simp, fun _ h => absurd (e.symm.trans h) n2⟩
     | stop y m1 =>
       rw [x1] at n1 f2
       have e := f2 y m1 rfl
       refine ⟨?_, fun h _ => absurd (e.symm.trans h) n1⟩
       cases x2 : exL p.body (begR p vs k) with
       | ok m2 =>
         rw [x1, x2] at t
         simp only [Rx.mc]
         rw [sub1 t]
         rfl
       | stop z m2 =>
         rw [x1, x2] at t
         simp only [Rx.mc]
         rcases t with t | t
         ·rw [sub1 t]; rfl
         ·rw [sub1 t]; simp
end Go.Proofs.YtpbdjgdmhfibmaaGreatDoor
-- CTX D
set_option linter.all false
namespace Go.Proofs.YtpbdjgdmhfibmaaGreatDoor
open Go.Abs
attribute [local congr] ite_congr
set_option maxRecDepth 100000
theorem readsP (l : List Bytes) (k : Bytes) (hl : l.length ≤ 1099511627776) (A : AHeap) : acl D 23 [.d (.slice (srow l)), .d (.str k)] A = some (.d (.bool (l.any fun y => y == k)), A) := by
 have hsl : (srow l).length = l.length := by simp [srow]
 rw [k_call (c := D) (f := 23) rfl Tryz.func23 rfl (ok 23 (by kernel_rfl)) rfl Tryz.ntmps23 Tryz.results23 (by simp)]
 simp (maxSteps := 1000000) only [go_sem, acondK_bool]
 refine loop_any (fun pre => [(0, .v (.d (.slice (srow l)))), (1, .v (.d (.str k))), (5, .v (.d (.int .i64 (pre.length : Nat))))])
  (fun _ => A) (fun _ suf => some (.d (.bool (suf.any fun y => y == k)), A)) l rfl rfl rfl ?_
 intro pre suf h ih
 have hb : pre.length < 9223372036854775807 := by rw [h] at hl; simp at hl; omega
 cases suf with
 | nil =>
   have e4 : decide ((pre.length : Int) < ((srow l).length : Int)) = false := by rw [hsl, h]; simp
   simp (maxSteps := 1000000) only [go_sem, acondK_bool, e4]
   rfl
 | cons x suf =>
   have e2 := ih x suf rfl
   rw [List.length_append, List.length_cons, List.length_nil] at e2
   have e3 : (srow l)[pre.length]? = some [.str x] := by rw [h]; simp [srow]
   have e4 : decide ((pre.length : Int) < ((srow l).length : Int)) = true := by rw [hsl, h]; simp; omega
   rw [List.any_cons]
   cases hx : x == k with
   | true => simp (maxSteps := 1000000) only [go_sem, acondK_bool, e3, e4, hx]
   | false => simp (maxSteps := 1000000) only [go_sem, acondK_bool, e3, e4, hx, e2, wrap_nat hb]
theorem withinP (a b : List Bytes) (ha : a.length ≤ 1099511627776) (hb' : b.length ≤ 1099511627776) (A : AHeap) : acl D 10 [.d (.slice (srow a)), .d (.slice (srow b))] A = some (.d (.bool (wthS a b)), A) := by
 have hsl : (srow a).length = a.length := by simp [srow]
 unfold wthS
 rw [k_call (c := D) (f := 10) rfl Tryz.func10 rfl (ok 10 (by kernel_rfl)) rfl Tryz.ntmps10 Tryz.results10 (by simp)]
 simp (maxSteps := 1000000) only [go_sem, acondK_bool]
 refine loop_any (fun pre => [(1, .v (.d (.slice (srow b)))), (0, .v (.d (.slice (srow a)))), (5, .v (.d (.int .i64 (pre.length : Nat))))])
  (fun _ => A) (fun _ suf => some (.d (.bool (suf.all fun x => b.any fun y => y == x)), A)) a rfl rfl rfl ?_
 intro pre suf h ih
 have hb : pre.length < 9223372036854775807 := by rw [h] at ha; simp at ha; omega
 cases suf with
 | nil =>
   have e4 : decide ((pre.length : Int) < ((srow a).length : Int)) = false := by rw [hsl, h]; simp
   simp (maxSteps := 1000000) only [go_sem, acondK_bool, e4]
 | cons x suf =>
   have e2 := ih x suf rfl
   rw [List.length_append, List.length_cons, List.length_nil] at e2
   have e3 : (srow a)[pre.length]? = some [.str x] := by rw [h]; simp [srow]
   have e4 : decide ((pre.length : Int) < ((srow a).length : Int)) = true := by rw [hsl, h]; simp; omega
   have r1 := readsP b x hb' A
   rw [List.all_cons]
   cases hx : (b.any fun y => y == x) with
   | true =>
     rw [hx] at r1
     simp (maxSteps := 1000000) only [go_sem, acondK_bool, e3, e4, r1, e2, wrap_nat hb]
   | false =>
     rw [hx] at r1
     simp (maxSteps := 1000000) only [go_sem, acondK_bool, e3, e4, r1]
def exK : E := .mk 2 0 [107] []
def exGet : E := .mk 23 0 [] [exK]
def exOne : E := .mk 1 1 [] []
def exP : Pr := ⟨[112], [], [.mk 3 [] 0 exGet exOne [] []]⟩
def exQ : Pr := ⟨[113], [], [.mk 3 [] 0 exK exOne [] []]⟩
theorem exE (op n : Int) (s : Bytes) (args : List E) (h1 : i64 op) (h2 : i64 n) (h3 : s.length ≤ 64) (h4 : args.length ≤ 64) (h5 : ∀ x ∈ args, x.Ok) : E.Ok (.mk op n s args) := by
 constructor <;> first | assumption | omega
theorem exK_ok : exK.Ok := exE _ _ _ _ (by unfold i64; omega) (by unfold i64; omega) (by simp) (by simp) (by simp)
theorem exGet_ok : exGet.Ok := exE _ _ _ _ (by unfold i64; omega) (by unfold i64; omega) (by simp) (by simp) (by simp; exact exK_ok)
theorem exOne_ok : exOne.Ok := exE _ _ _ _ (by unfold i64; omega) (by unfold i64; omega) (by simp) (by simp) (by simp)
theorem exStm (a b : E) (ha : a.Ok) (hb : b.Ok) : Stm.Ok (.mk 3 [] 0 a b [] []) := by
 constructor <;> first | assumption | (unfold i64; omega) | simp
theorem exP_ok : exP.Ok := ⟨by simp [exP], by simp [exP], by simp [exP], by simp [exP], by simp [exP]; exact exStm _ _ exGet_ok exOne_ok, by simp [exP], by simp [exP]⟩
theorem exQ_ok : exQ.Ok := ⟨by simp [exQ], by simp [exQ], by simp [exQ], by simp [exQ], by simp [exQ]; exact exStm _ _ exK_ok exOne_ok, by simp [exQ], by simp [exQ]⟩
theorem exP_key : keyD exP = true ∧ indD exP = false := by decide
theorem exQ_ind : indD exQ = true := by decide
theorem exQ_run : runOk exQ [] [] = true := by decide
theorem with_nil (k : Bytes) : withS [] k = [k] := by
 unfold withS sIn
 rw [bsR]
 simp
theorem exQ_ex : exL exQ.body (begR exQ [] []) = .ok ⟨[], true, [], [], [], [([107], ⟨1, 1, []⟩)], [], [], [[107]], 1⟩ := by
 have kv : keyV [107] = true := by decide
 have w1 : IntKind.i64.wrap ((newS [] true [] []).steps + 1) = 1 := by decide
 simp [exQ, exK, exOne, exL, exS, evE, begR, newS, varsR, tickR, Rx.bind, Rv.bind, mustR, storeR, kv, with_nil, setE, show IntKind.i64.wrap 1 = 1 by decide]
theorem exQ_free : freeS exQ [] [] = effAV 1 0 [] [] (srow [[107]]) (putsR [([107], ⟨1, 1, []⟩)] [[107]]) [] 1 := by
 unfold freeS
 rw [exQ_run, if_pos rfl, exQ_ex]
 rfl
theorem exQ_args : ArgsOk exQ [] [] := argsOk_of exQ_ok (by simp [exQ]) (by simp) (by simp) (by simp)
theorem taintedT (A : AHeap) : acl D 8 [] A = some (.d (.bool true), A) := by
 have f := freeP exQ_args
 rw [exQ_free] at f
 have k := fun B => up (keysD exP exP_ok (by simp [exP]) B)
 have i := fun B => up (independentD exP exP_ok (by simp [exP]) B)
 have j := fun B => up (independentD exQ exQ_ok (by simp [exQ]) B)
 rw [exP_key.1] at k
 rw [exP_key.2] at i
 rw [exQ_ind] at j
 have rP : exP.body.map Stm.row = [[.int .i64 3, .str [], .int .i64 0, .int .i64 23, .int .i64 0, .str [], .slice [[.int .i64 2, .int .i64 0, .str [107], .slice []]], .int .i64 1, .int .i64 1, .str [], .slice [], .slice [], .slice []]] := rfl
 have rQ : exQ.body.map Stm.row = [[.int .i64 3, .str [], .int .i64 0, .int .i64 2, .int .i64 0, .str [107], .slice [], .int .i64 1, .int .i64 1, .str [], .slice [], .slice [], .slice []]] := rfl
 have cf : ∀ B, acl D 9 [.agg [.d (.str [113]), .nilS, .full (exQ.body.map Stm.row)], .nilS, .nilS] B = acl D 9 [Pr.av exQ, .d (.slice ([].map Vl.row)), .d (.slice ([].map Kv.row))] B := fun B =>
  acl_cleanE rfl Tryz.func9 rfl (ok 9 (by kernel_rfl)) (show 3 ≤ Tryz.f9.ntmps by decide) (show 3 ≤ Tryz.f9.ntmps by decide) rfl rfl rfl
 have ck : ∀ B, acl D 21 [.agg [.d (.str [112]), .nilS, .full (exP.body.map Stm.row)]] B = acl D 21 [Pr.av exP] B := fun B =>
  acl_cleanE rfl Tryz.func21 rfl (ok 21 (by kernel_rfl)) (show 1 ≤ Tryz.f21.ntmps by decide) (show 1 ≤ Tryz.f21.ntmps by decide) rfl rfl rfl
 have ci : ∀ B, acl D 6 [.agg [.d (.str [112]), .nilS, .full (exP.body.map Stm.row)]] B = acl D 6 [Pr.av exP] B := fun B =>
  acl_cleanE rfl Tryz.func6 rfl (ok 6 (by kernel_rfl)) (show 1 ≤ Tryz.f6.ntmps by decide) (show 1 ≤ Tryz.f6.ntmps by decide) rfl rfl rfl
 have cj : ∀ B, acl D 6 [.agg [.d (.str [113]), .nilS, .full (exQ.body.map Stm.row)]] B = acl D 6 [Pr.av exQ] B := fun B =>
  acl_cleanE rfl Tryz.func6 rfl (ok 6 (by kernel_rfl)) (show 1 ≤ Tryz.f6.ntmps by decide) (show 1 ≤ Tryz.f6.ntmps by decide) rfl rfl rfl
 simp only [f] at cf
 simp only [k] at ck
 simp only [i] at ci
 simp only [j] at cj
 rw [rQ] at cf cj
 rw [rP] at ck ci
 have fin := fun b => fin_data (f := 8) rfl (v := .d (.bool b)) ⟨rfl, rfl, rfl⟩ (A := A) (B := A) (by simp) (by simp)
 have sr : srow [[107]] = [[.str [107]]] := rfl
 unfold effAV at cf
 rw [sr] at cf
 rw [k_call (c := D) (f := 8) rfl Tryz.func8 rfl (ok 8 (by kernel_rfl)) rfl Tryz.ntmps8 Tryz.results8 (by simp)]
 simp (maxSteps := 1000000) only [go_sem, acondK_bool, cf, ck, ci, cj, fin, k_drawn_q]
 rfl
end Go.Proofs.YtpbdjgdmhfibmaaGreatDoor
-- CTX D
set_option linter.all false
namespace Go.Proofs.YtpbdjgdmhfibmaaGreatDoor
open Go.Abs
attribute [local congr] ite_congr
set_option maxRecDepth 100000
theorem lawTopDataflow (p : Pr) (vs : List Vl) (l k : List Kv) (hp : p.Ok) (hv : vs.length ≤ 1048576 ∧ ∀ v ∈ vs, v.Ok) (hl : l.length ≤ 1048576 ∧ ∀ x ∈ l, x.key.length ≤ 1099511627776 ∧ x.v.Ok) (hk : k.length ≤ 1048576 ∧ ∀ x ∈ k, x.key.length ≤ 1099511627776 ∧ x.v.Ok) :
  acl D 3 [Pr.av p, .d (.slice (vs.map Vl.row)), .d (.slice (l.map Kv.row)), .d (.slice (k.map Kv.row))] A00 = some (.d (.bool true), A00) := by
 have sm := up (small p hp 600 A00)
 have tt := taintedT A00
 have fin := fun b => fin_data (f := 3) rfl (v := .d (.bool b)) ⟨rfl, rfl, rfl⟩ (A := A00) (B := A00) (by simp) (by simp)
 rw [k_call (c := D) (f := 3) rfl Tryz.func3 rfl (ok 3 (by kernel_rfl)) rfl Tryz.ntmps3 Tryz.results3 (by simp)]
 cases h1 : smallS p 600 with
 | false => simp (maxSteps := 1000000) only [go_sem, acondK_bool, sm, h1, tt, fin]
 | true =>
 cases h2 : decide (40 < (vs.length : Int)) with
 | true => simp (maxSteps := 1000000) only [go_sem, acondK_bool, sm, h1, h2, tt, fin]
 | false =>
 cases h3 : decide (60 < (l.length : Int)) with
 | true => simp (maxSteps := 1000000) only [go_sem, acondK_bool, sm, h1, h2, h3, tt, fin]
 | false =>
 cases h4 : decide (60 < (k.length : Int)) with
 | true => simp (maxSteps := 1000000) only [go_sem, acondK_bool, sm, h1, h2, h3, h4, tt, fin]
 | false =>
 have h40 := small40 h1
 have i1 := up (independentD p hp h40 A00)
 have b1 := up (controlD p hp h40 A00)
 cases h5 : indD p with
 | false =>
   rw [h5] at i1
   simp (maxSteps := 1000000) only [go_sem, acondK_bool, sm, h1, h2, h3, h4, i1, tt, fin]
 | true =>
 rw [h5] at i1
 cases h6 : brnD p with
 | true =>
   rw [h6] at b1
   simp (maxSteps := 1000000) only [go_sem, acondK_bool, sm, h1, h2, h3, h4, i1, b1, tt, fin]
 | false =>
 rw [h6] at b1
 have a1 := argsOk_of hp h40 hv.2 hl.1 hl.2
 have a2 := argsOk_of hp h40 hv.2 hk.1 hk.2
 obtain ⟨s1, R1, W1, s2, R2, W2, ⟨c1, o1, w1, m1, t1, e1⟩, ⟨c2, o2, w2, m2, t2, e2⟩, l1, l2, l3, l4, one, both⟩ := effs_two a1 a2 h5 h6
 have f1 := freeP a1 A00
 have f2 := freeP a2 A00
 rw [e1] at f1
 rw [e2] at f2
 have q1 := withinP R1 R2 l1 l3 A00
 have q2 := withinP W1 W2 l2 l4 A00
 have q3 := withinP R2 R1 l3 l1 A00
 have q4 := withinP W2 W1 l4 l2 A00
 unfold effAV at f1 f2
 generalize wthS R1 R2 = x1 at *
 generalize wthS W1 W2 = x2 at *
 generalize wthS R2 R1 = x3 at *
 generalize wthS W2 W1 = x4 at *
 cases g1 : decide (s1 = 1) with
 | true =>
   cases g2 : decide (s2 = 1) with
   | true =>
     have bb := both (by simpa using g1) (by simpa using g2)
     simp only [Bool.and_eq_true] at bb
     obtain ⟨⟨rfl, rfl⟩, rfl, rfl⟩ := bb
     simp (maxSteps := 1000000) only [go_sem, acondK_bool, sm, h1, h2, h3, h4, i1, b1, f1, f2, q1, q2, q3, q4, g1, g2, tt, fin]
   | false =>
     cases x1 <;> cases x2 <;> cases x3 <;> cases x4 <;> first | (exact absurd one (by decide)) | simp (maxSteps := 1000000) only [go_sem, acondK_bool, sm, h1, h2, h3, h4, i1, b1, f1, f2, q1, q2, q3, q4, g1, g2, tt, fin]
 | false =>
   cases x1 <;> cases x2 <;> cases x3 <;> cases x4 <;> first | (exact absurd one (by decide)) | simp (maxSteps := 1000000) only [go_sem, acondK_bool, sm, h1, h2, h3, h4, i1, b1, f1, f2, q1, q2, q3, q4, g1, tt, fin]
end Go.Proofs.YtpbdjgdmhfibmaaGreatDoor
