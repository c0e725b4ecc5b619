/- The counts of an expression and of a statement alone, on the reference's side. -/
import Derived.Test.YtjmghomnbmbjnaaGreatSeatV
import Derived.Test.YtjmghomnbmbjnaaGreatSeatW
set_option linter.unusedVariables false
set_option linter.unusedSimpArgs false
set_option linter.all false
set_option linter.deprecated false
set_option linter.all false
namespace Go.Proofs.YtjmghomnbmbjnaaGreat
open Go.Abs
attribute [local congr] ite_congr
set_option maxRecDepth 10000
@[go_sem] theorem cutR (n : Int) (A : AHeap) : acl C 140 [.d (.int .i64 n)] A = some (.d (.int .i64 (cut n)), A) := by
  rw [k_call (c := C) (f := 140) rfl Tryz.func140 rfl (ok 140 (by kernel_rfl)) rfl Tryz.ntmps140 Tryz.results140 (by simp)]
  simp (maxSteps := 1000000) only [go_sem, acondK_bool, acB_merge, Nat.reduceLT, Nat.reduceLeDiff, Nat.reduceEqDiff, Nat.reduceAdd, Nat.reduceSub, Nat.reduceMul, Nat.reduceBEq, Nat.reduceBNe, Nat.reduceBneDiff, Nat.reduceBeqDiff, Int.reduceToNat, Int.reduceLE, Int.reduceLT, Int.reduceEq, Int.reduceNe, Int.reduceNeg, Int.reduceAdd, Int.reduceSub, ↓reduceIte, reduceCtorEq, k_drawn_q]
  rfl
theorem getsR : ∀ e, E.Ok e → ∀ (A : AHeap), acl C 141 [E.av e] A = some (.d (.int .i64 (cut (tE e))), A) := by
  intro e
  induction e using E.ind with
  | h op n s args ih =>
    intro hok A
    have hlen := hok.fit
    obtain ⟨o, ho⟩ : ∃ o : Int, o = if rdS op = true then 1 else 0 := ⟨_, rfl⟩
    have ho2 : 0 ≤ o ∧ o ≤ 1 := by rw [ho]; split <;> omega
    have hco : cut o = o := by unfold cut; rw [if_neg (by omega)]
    have q3 : (decide (op = 22) || decide (op = 23) || decide (op = 24)) = rdS op := rfl
    have key : ∀ (r : Option (AV × AHeap)), r = some (.d (.int .i64 (cut (o + tEs args))), A) → r = some (.d (.int .i64 (cut (tE (.mk op n s args)))), A) := by
      intro r hr
      rw [hr, tE, ← ho]
    apply key
    rw [k_call (c := C) (f := 141) rfl Tryz.func141 rfl (ok 141 (by kernel_rfl)) rfl Tryz.ntmps141 Tryz.results141 (by simp)]
    cases h1 : rdS op with
    | true =>
      obtain rfl : o = 1 := by rw [ho, h1]; rfl
      simp (maxSteps := 1000000) only [go_sem, acondK_bool, acB_merge, Nat.reduceLT, Nat.reduceLeDiff, Nat.reduceEqDiff, Nat.reduceAdd, Nat.reduceSub, Nat.reduceMul, Nat.reduceBEq, Nat.reduceBNe, Nat.reduceBneDiff, Nat.reduceBeqDiff, Int.reduceToNat, Int.reduceLE, Int.reduceLT, Int.reduceEq, Int.reduceNe, Int.reduceNeg, Int.reduceAdd, Int.reduceSub, ↓reduceIte, reduceCtorEq, k_drawn_q, q3, h1]
      refine loop_any (fun pre => [(3, .v (.d (.int .i64 (cut (1 + tEs pre))))), (4, .v (.d (.int .i64 (pre.length : Nat)))), (1, .box [.d (.int .i64 op), .d (.int .i64 n), .d (.str s), .d (.slice (args.map E.row))])])
        (fun _ => A) (fun _ _ => some (.d (.int .i64 (cut (1 + tEs args))), A)) args (by simp [tEs, cut]) rfl rfl ?_
      intro pre suf hl ih2
      have hb : pre.length < 9223372036854775807 := by rw [hl] at hlen; simp at hlen; omega
      cases suf with
      | nil =>
        rw [List.append_nil] at hl
        subst hl
        have e4 : decide ((args.length : Int) < (args.length : Int)) = false := by simp
        simp (maxSteps := 1000000) only [go_sem, acondK_bool, acB_merge, Nat.reduceLT, Nat.reduceLeDiff, Nat.reduceEqDiff, Nat.reduceAdd, Nat.reduceSub, Nat.reduceMul, Nat.reduceBEq, Nat.reduceBNe, Nat.reduceBneDiff, Nat.reduceBeqDiff, Int.reduceToNat, Int.reduceLE, Int.reduceLT, Int.reduceEq, Int.reduceNe, Int.reduceNeg, Int.reduceAdd, Int.reduceSub, ↓reduceIte, reduceCtorEq, k_drawn_q, e4]
        done
      | cons x suf =>
        have hx : x ∈ args := by rw [hl]; simp
        have e1 := ih x hx (hok.arg x hx) A
        have e2 := ih2 x suf rfl
        have t1 : tEs (pre ++ [x]) = tEs pre + tE x := by rw [tEs_append]; simp [tEs]
        rw [List.length_append, List.length_cons, List.length_nil, t1, ← Int.add_assoc] at e2
        have e3 : (args.map E.row)[pre.length]? = some (E.row x) := by rw [hl]; exact map_mid
        have e4 : decide ((pre.length : Int) < (args.length : Int)) = true := by rw [hl]; simp; omega
        rw [E.row_eq] at e3
        have p1 := tEs_nn pre
        have p2 := tE_nn x
        have w1 := wadd (cut_ok (show 0 ≤ 1 + tEs pre by omega)) (cut_ok p2)
        have c1 : cut (cut (1 + tEs pre) + cut (tE x)) = cut (1 + tEs pre + tE x) := cut_cut2 p2 (by omega)
        simp (maxSteps := 1000000) only [go_sem, acondK_bool, acB_merge, Nat.reduceLT, Nat.reduceLeDiff, Nat.reduceEqDiff, Nat.reduceAdd, Nat.reduceSub, Nat.reduceMul, Nat.reduceBEq, Nat.reduceBNe, Nat.reduceBneDiff, Nat.reduceBeqDiff, Int.reduceToNat, Int.reduceLE, Int.reduceLT, Int.reduceEq, Int.reduceNe, Int.reduceNeg, Int.reduceAdd, Int.reduceSub, ↓reduceIte, reduceCtorEq, k_drawn_q, e3, e4, e1, e2, w1, c1, wrap_nat hb]
    | false =>
      obtain rfl : o = 0 := by rw [ho, h1]; rfl
      simp (maxSteps := 1000000) only [go_sem, acondK_bool, acB_merge, Nat.reduceLT, Nat.reduceLeDiff, Nat.reduceEqDiff, Nat.reduceAdd, Nat.reduceSub, Nat.reduceMul, Nat.reduceBEq, Nat.reduceBNe, Nat.reduceBneDiff, Nat.reduceBeqDiff, Int.reduceToNat, Int.reduceLE, Int.reduceLT, Int.reduceEq, Int.reduceNe, Int.reduceNeg, Int.reduceAdd, Int.reduceSub, ↓reduceIte, reduceCtorEq, k_drawn_q, q3, h1]
      refine loop_any (fun pre => [(3, .v (.d (.int .i64 (cut (0 + tEs pre))))), (4, .v (.d (.int .i64 (pre.length : Nat)))), (1, .box [.d (.int .i64 op), .d (.int .i64 n), .d (.str s), .d (.slice (args.map E.row))])])
        (fun _ => A) (fun _ _ => some (.d (.int .i64 (cut (0 + tEs args))), A)) args (by simp [tEs, cut]) rfl rfl ?_
      intro pre suf hl ih2
      have hb : pre.length < 9223372036854775807 := by rw [hl] at hlen; simp at hlen; omega
      cases suf with
      | nil =>
        rw [List.append_nil] at hl
        subst hl
        have e4 : decide ((args.length : Int) < (args.length : Int)) = false := by simp
        simp (maxSteps := 1000000) only [go_sem, acondK_bool, acB_merge, Nat.reduceLT, Nat.reduceLeDiff, Nat.reduceEqDiff, Nat.reduceAdd, Nat.reduceSub, Nat.reduceMul, Nat.reduceBEq, Nat.reduceBNe, Nat.reduceBneDiff, Nat.reduceBeqDiff, Int.reduceToNat, Int.reduceLE, Int.reduceLT, Int.reduceEq, Int.reduceNe, Int.reduceNeg, Int.reduceAdd, Int.reduceSub, ↓reduceIte, reduceCtorEq, k_drawn_q, e4]
        done
      | cons x suf =>
        have hx : x ∈ args := by rw [hl]; simp
        have e1 := ih x hx (hok.arg x hx) A
        have e2 := ih2 x suf rfl
        have t1 : tEs (pre ++ [x]) = tEs pre + tE x := by rw [tEs_append]; simp [tEs]
        rw [List.length_append, List.length_cons, List.length_nil, t1, ← Int.add_assoc] at e2
        have e3 : (args.map E.row)[pre.length]? = some (E.row x) := by rw [hl]; exact map_mid
        have e4 : decide ((pre.length : Int) < (args.length : Int)) = true := by rw [hl]; simp; omega
        rw [E.row_eq] at e3
        have p1 := tEs_nn pre
        have p2 := tE_nn x
        have w1 := wadd (cut_ok (show 0 ≤ 0 + tEs pre by omega)) (cut_ok p2)
        have c1 : cut (cut (0 + tEs pre) + cut (tE x)) = cut (0 + tEs pre + tE x) := cut_cut2 p2 (by omega)
        simp (maxSteps := 1000000) only [go_sem, acondK_bool, acB_merge, Nat.reduceLT, Nat.reduceLeDiff, Nat.reduceEqDiff, Nat.reduceAdd, Nat.reduceSub, Nat.reduceMul, Nat.reduceBEq, Nat.reduceBNe, Nat.reduceBneDiff, Nat.reduceBeqDiff, Int.reduceToNat, Int.reduceLE, Int.reduceLT, Int.reduceEq, Int.reduceNe, Int.reduceNeg, Int.reduceAdd, Int.reduceSub, ↓reduceIte, reduceCtorEq, k_drawn_q, e3, e4, e1, e2, w1, c1, wrap_nat hb]
theorem ownR (x : Stm) (hx : x.Ok) (A : AHeap) : acl C 118 [Stm.av x] A = some ((ownK x.op x.a x.b).cut.av, A) := by
  have r1 := getsR x.a (Stm.Ok.a hx) A
  have r2 := getsR x.b (Stm.Ok.b hx) A
  have ta := tE_nn x.a
  have tb := tE_nn x.b
  have wab := wadd (cut_ok ta) (cut_ok tb)
  have kab : cut (cut (tE x.a) + cut (tE x.b)) = cut (tE x.a + tE x.b) := cut_cut2 tb ta
  have c1 : cut 1 = 1 := rfl
  have c0 : cut 0 = 0 := rfl
  have fin : ∀ k : K, k = (ownK x.op x.a x.b).cut → some ((k.av, A) : AV × AHeap) = some ((ownK x.op x.a x.b).cut.av, A) := fun k hk => by rw [hk]
  rw [k_call (c := C) (f := 118) rfl Tryz.func118 rfl (ok 118 (by kernel_rfl)) rfl Tryz.ntmps118 Tryz.results118 (by simp)]
  simp (maxSteps := 1000000) only [go_sem, acondK_bool, acB_merge, Nat.reduceLT, Nat.reduceLeDiff, Nat.reduceEqDiff, Nat.reduceAdd, Nat.reduceSub, Nat.reduceMul, Nat.reduceBEq, Nat.reduceBNe, Nat.reduceBneDiff, Nat.reduceBeqDiff, Int.reduceToNat, Int.reduceLE, Int.reduceLT, Int.reduceEq, Int.reduceNe, Int.reduceNeg, Int.reduceAdd, Int.reduceSub, ↓reduceIte, reduceCtorEq, k_drawn_t, r1, r2, wab, kab]
  refine Eq.trans (ctE_ok (by repeat (first | exact MLe.nil | apply MLe.qq | apply MLe.q | apply MLe.o | apply MLe.b | apply MLe.l)) (by kernel_rfl)) ?_
  have k : (ownK x.op x.a x.b).cut = ⟨1, cut (tE x.a + tE x.b), if (decide (x.op = 3) || decide (x.op = 4)) = true then 1 else 0, if decide (x.op = 7) = true then 1 else 0⟩ := by
    unfold ownK K.cut
    simp only [c1]
    congr 1
    · split <;> rfl
    · split <;> rfl
  cases h3 : decide (x.op = 3) <;> cases h4 : decide (x.op = 4) <;> cases h7 : decide (x.op = 7) <;> rw [h3, h4, h7] at k <;> rw [k] <;> simp (maxSteps := 1000000) only [go_sem, acondK_bool, acB_merge, Nat.reduceLT, Nat.reduceLeDiff, Nat.reduceEqDiff, Nat.reduceAdd, Nat.reduceSub, Nat.reduceMul, Nat.reduceBEq, Nat.reduceBNe, Nat.reduceBneDiff, Nat.reduceBeqDiff, Int.reduceToNat, Int.reduceLE, Int.reduceLT, Int.reduceEq, Int.reduceNe, Int.reduceNeg, Int.reduceAdd, Int.reduceSub, ↓reduceIte, reduceCtorEq, k_drawn_q, h3, h4, h7]
  all_goals rfl
end Go.Proofs.YtjmghomnbmbjnaaGreat
set_option linter.all false
namespace Go.Proofs.YtjmghomnbmbjnaaGreat
open Go.Abs
attribute [local congr] ite_congr
set_option maxRecDepth 10000
theorem plusR (a b : K) (ha : a.Ok) (hb : b.Ok) (A : AHeap) : acl C 119 [a.av, b.av] A = some ((a.plus b).av, A) := by
  have w1 := wadd ha.s hb.s
  have w2 := wadd ha.g hb.g
  have w3 := wadd ha.p hb.p
  have w4 := wadd ha.e hb.e
  rw [k_call (c := C) (f := 119) rfl Tryz.func119 rfl (ok 119 (by kernel_rfl)) rfl Tryz.ntmps119 Tryz.results119 (by simp)]
  simp (maxSteps := 1000000) only [go_sem, acondK_bool, acB_merge, Nat.reduceLT, Nat.reduceLeDiff, Nat.reduceEqDiff, Nat.reduceAdd, Nat.reduceSub, Nat.reduceMul, Nat.reduceBEq, Nat.reduceBNe, Nat.reduceBneDiff, Nat.reduceBeqDiff, Int.reduceToNat, Int.reduceLE, Int.reduceLT, Int.reduceEq, Int.reduceNe, Int.reduceNeg, Int.reduceAdd, Int.reduceSub, ↓reduceIte, reduceCtorEq, k_drawn_t, w1, w2, w3, w4]
  refine Eq.trans (ctE_ok (by repeat (first | exact MLe.nil | apply MLe.qq | apply MLe.q | apply MLe.o | apply MLe.b | apply MLe.l)) (by kernel_rfl)) ?_
  simp (maxSteps := 1000000) only [go_sem, acondK_bool, acB_merge, Nat.reduceLT, Nat.reduceLeDiff, Nat.reduceEqDiff, Nat.reduceAdd, Nat.reduceSub, Nat.reduceMul, Nat.reduceBEq, Nat.reduceBNe, Nat.reduceBneDiff, Nat.reduceBeqDiff, Int.reduceToNat, Int.reduceLE, Int.reduceLT, Int.reduceEq, Int.reduceNe, Int.reduceNeg, Int.reduceAdd, Int.reduceSub, ↓reduceIte, reduceCtorEq]
  rfl
theorem greaterR (a b : K) (A : AHeap) : acl C 120 [a.av, b.av] A = some ((a.larger b).av, A) := by
  have q : ∀ a b : Int, (if b > a then b else a) = mx a b := fun _ _ => rfl
  rw [k_call (c := C) (f := 120) rfl Tryz.func120 rfl (ok 120 (by kernel_rfl)) rfl Tryz.ntmps120 Tryz.results120 (by simp)]
  simp (maxSteps := 1000000) only [go_sem, acondK_bool, acB_merge, Nat.reduceLT, Nat.reduceLeDiff, Nat.reduceEqDiff, Nat.reduceAdd, Nat.reduceSub, Nat.reduceMul, Nat.reduceBEq, Nat.reduceBNe, Nat.reduceBneDiff, Nat.reduceBeqDiff, Int.reduceToNat, Int.reduceLE, Int.reduceLT, Int.reduceEq, Int.reduceNe, Int.reduceNeg, Int.reduceAdd, Int.reduceSub, ↓reduceIte, reduceCtorEq, k_drawn_t, q]
  rfl
theorem timesR (n : Int) (a : K) (ha : a.Ok) (hn : 0 ≤ n ∧ n ≤ 1000) (A : AHeap) : acl C 121 [.d (.int .i64 n), a.av] A = some ((a.times n).av, A) := by
  have w1 := wmul ha.s hn
  have w2 := wmul ha.g hn
  have w3 := wmul ha.p hn
  have w4 := wmul ha.e hn
  rw [Int.mul_comm] at w1 w2 w3 w4
  have m := fun x => Int.mul_comm n x
  rw [k_call (c := C) (f := 121) rfl Tryz.func121 rfl (ok 121 (by kernel_rfl)) rfl Tryz.ntmps121 Tryz.results121 (by simp)]
  simp (maxSteps := 1000000) only [go_sem, acondK_bool, acB_merge, Nat.reduceLT, Nat.reduceLeDiff, Nat.reduceEqDiff, Nat.reduceAdd, Nat.reduceSub, Nat.reduceMul, Nat.reduceBEq, Nat.reduceBNe, Nat.reduceBneDiff, Nat.reduceBeqDiff, Int.reduceToNat, Int.reduceLE, Int.reduceLT, Int.reduceEq, Int.reduceNe, Int.reduceNeg, Int.reduceAdd, Int.reduceSub, ↓reduceIte, reduceCtorEq, k_drawn_t, w1, w2, w3, w4]
  refine Eq.trans (ctE_ok (by repeat (first | exact MLe.nil | apply MLe.qq | apply MLe.q | apply MLe.o | apply MLe.b | apply MLe.l)) (by kernel_rfl)) ?_
  simp (maxSteps := 1000000) only [go_sem, acondK_bool, acB_merge, Nat.reduceLT, Nat.reduceLeDiff, Nat.reduceEqDiff, Nat.reduceAdd, Nat.reduceSub, Nat.reduceMul, Nat.reduceBEq, Nat.reduceBNe, Nat.reduceBneDiff, Nat.reduceBeqDiff, Int.reduceToNat, Int.reduceLE, Int.reduceLT, Int.reduceEq, Int.reduceNe, Int.reduceNeg, Int.reduceAdd, Int.reduceSub, ↓reduceIte, reduceCtorEq]
  unfold K.times
  rw [Int.mul_comm a.s, Int.mul_comm a.g, Int.mul_comm a.p, Int.mul_comm a.e]
theorem K.plus_cutl {a b : K} (ha : a.Nn) (hb : b.Nn) : a.cut.plus b = (a.add b).cut := by
  simp only [K.plus, K.cut, K.add, cut_cut' hb.s ha.s, cut_cut' hb.g ha.g, cut_cut' hb.p ha.p, cut_cut' hb.e ha.e]
def BodyK (l : List Stm) : Prop := ∀ A, acl C 87 [.d (.slice (l.map Stm.row))] A = some ((tSs l).cut.av, A)
theorem bodyK_of (l : List Stm) (hlen : l.length ≤ 4194303) (hok : ∀ x ∈ l, x.Ok) (d : Int) (hv : ∀ y k, Vis.s y k ∈ visSs l d → stmtS y k = 0) (ih : ∀ x ∈ l, BodyK x.body ∧ BodyK x.els) : BodyK l := by
  intro A
  rw [k_call (c := C) (f := 87) rfl Tryz.func87 rfl (ok 87 (by kernel_rfl)) rfl Tryz.ntmps87 Tryz.results87 (by simp)]
  simp (maxSteps := 1000000) only [go_sem, acondK_bool, acB_merge, Nat.reduceLT, Nat.reduceLeDiff, Nat.reduceEqDiff, Nat.reduceAdd, Nat.reduceSub, Nat.reduceMul, Nat.reduceBEq, Nat.reduceBNe, Nat.reduceBneDiff, Nat.reduceBeqDiff, Int.reduceToNat, Int.reduceLE, Int.reduceLT, Int.reduceEq, Int.reduceNe, Int.reduceNeg, Int.reduceAdd, Int.reduceSub, ↓reduceIte, reduceCtorEq]
  refine loop_any (fun pre => [(4, .v (.d (.int .i64 (pre.length : Nat)))), (3, .box [.d (.int .i64 (tSs pre).cut.s), .d (.int .i64 (tSs pre).cut.g), .d (.int .i64 (tSs pre).cut.p), .d (.int .i64 (tSs pre).cut.e)]), (0, .v (.d (.slice (l.map Stm.row)))), (2, .box [.d (.int .i64 0), .d (.int .i64 0), .d (.int .i64 0), .d (.int .i64 0)])])
    (fun _ => A) (fun _ _ => some ((tSs l).cut.av, A)) l rfl rfl rfl ?_
  intro pre suf hl ih2
  have hb : pre.length < 9223372036854775807 := by rw [hl] at hlen; simp at hlen; omega
  cases suf with
  | nil =>
    rw [List.append_nil] at hl
    subst hl
    have e4 : decide ((l.length : Int) < (l.length : Int)) = false := by simp
    simp (maxSteps := 1000000) only [go_sem, acondK_bool, acB_merge, Nat.reduceLT, Nat.reduceLeDiff, Nat.reduceEqDiff, Nat.reduceAdd, Nat.reduceSub, Nat.reduceMul, Nat.reduceBEq, Nat.reduceBNe, Nat.reduceBneDiff, Nat.reduceBeqDiff, Int.reduceToNat, Int.reduceLE, Int.reduceLT, Int.reduceEq, Int.reduceNe, Int.reduceNeg, Int.reduceAdd, Int.reduceSub, ↓reduceIte, reduceCtorEq, e4]
    done
  | cons x suf =>
    have hx : x ∈ l := by rw [hl]; simp
    have e2 := ih2 x suf rfl
    rw [List.length_append, List.length_cons, List.length_nil, tSs_snoc] at e2
    have e3 : (l.map Stm.row)[pre.length]? = some (Stm.row x) := by rw [hl]; exact map_mid
    have e4 : decide ((pre.length : Int) < (l.length : Int)) = true := by rw [hl]; simp; omega
    have n1 : (tSs pre).Nn := tSs_nn pre d fun y k hy => hv y k (by rw [hl, visSs_append]; exact List.mem_append_left _ hy)
    have hvx : ∀ y k, Vis.s y k ∈ visS x d → stmtS y k = 0 := fun y k hy => hv y k (by rw [hl, visSs_append, visSs]; exact List.mem_append_right _ (List.mem_append_left _ hy))
    have n2 : (tS x).Nn := tS_nn x d hvx
    have p0 := plusR (tSs pre).cut (tS x).cut n1.cut n2.cut A
    rw [K.plus_cut n1 n2] at p0
    have o1 := ownR x (hok x hx) A
    have b1 := (ih x hx).1 A
    have b2 := (ih x hx).2 A
    have hm := maxOf (hvx x d (vis_self x d))
    obtain ⟨op, name, max, a, b, body, els⟩ := x
    change op = 6 → 1 ≤ max ∧ max ≤ 16 at hm
    have m1 := tSs_nn body (IntKind.i64.wrap (d + 1)) fun y k hy => hvx y k (vis_body _ hy)
    have m2 := tSs_nn els (IntKind.i64.wrap (d + 1)) fun y k hy => hvx y k (vis_els _ hy)
    have no := ownK_nn op a b
    change acl C _ [_] A = some ((ownK op a b).cut.av, A) at o1
    rw [Stm.row_eq] at e3
    cases h5 : decide (op = 5) with
    | true =>
      have h6 : decide (op = 6) = false := by simp at h5 ⊢; omega
      have g1 := greaterR (tSs body).cut (tSs els).cut A
      rw [K.larger_cut m1 m2] at g1
      have p1 := plusR (ownK op a b).cut ((tSs body).lar (tSs els)).cut no.cut (m1.lar m2).cut A
      rw [K.plus_cut no (m1.lar m2)] at p1
      have t1 : tS (.mk op name max a b body els) = (ownK op a b).add ((tSs body).lar (tSs els)) := by simp only [tS, h5, if_true]
      rw [t1] at p0 e2
      simp (maxSteps := 1000000) only [go_sem, acondK_bool, acB_merge, Nat.reduceLT, Nat.reduceLeDiff, Nat.reduceEqDiff, Nat.reduceAdd, Nat.reduceSub, Nat.reduceMul, Nat.reduceBEq, Nat.reduceBNe, Nat.reduceBneDiff, Nat.reduceBeqDiff, Int.reduceToNat, Int.reduceLE, Int.reduceLT, Int.reduceEq, Int.reduceNe, Int.reduceNeg, Int.reduceAdd, Int.reduceSub, ↓reduceIte, reduceCtorEq, k_drawn_t, e3, e4, o1, h5]
      simp (maxSteps := 1000000) only [go_sem, acondK_bool, acB_merge, Nat.reduceLT, Nat.reduceLeDiff, Nat.reduceEqDiff, Nat.reduceAdd, Nat.reduceSub, Nat.reduceMul, Nat.reduceBEq, Nat.reduceBNe, Nat.reduceBneDiff, Nat.reduceBeqDiff, Int.reduceToNat, Int.reduceLE, Int.reduceLT, Int.reduceEq, Int.reduceNe, Int.reduceNeg, Int.reduceAdd, Int.reduceSub, ↓reduceIte, reduceCtorEq, k_drawn_t, b1, b2, g1, p1]
      refine Eq.trans (ctE_ok (by repeat (first | exact MLe.nil | apply MLe.qq | apply MLe.q | apply MLe.o | apply MLe.b | apply MLe.l)) (by kernel_rfl)) ?_
      simp (maxSteps := 1000000) only [go_sem, acondK_bool, acB_merge, Nat.reduceLT, Nat.reduceLeDiff, Nat.reduceEqDiff, Nat.reduceAdd, Nat.reduceSub, Nat.reduceMul, Nat.reduceBEq, Nat.reduceBNe, Nat.reduceBneDiff, Nat.reduceBeqDiff, Int.reduceToNat, Int.reduceLE, Int.reduceLT, Int.reduceEq, Int.reduceNe, Int.reduceNeg, Int.reduceAdd, Int.reduceSub, ↓reduceIte, reduceCtorEq, k_drawn_t, h6, p0]
      simp (maxSteps := 1000000) only [go_sem, acondK_bool, acB_merge, Nat.reduceLT, Nat.reduceLeDiff, Nat.reduceEqDiff, Nat.reduceAdd, Nat.reduceSub, Nat.reduceMul, Nat.reduceBEq, Nat.reduceBNe, Nat.reduceBneDiff, Nat.reduceBeqDiff, Int.reduceToNat, Int.reduceLE, Int.reduceLT, Int.reduceEq, Int.reduceNe, Int.reduceNeg, Int.reduceAdd, Int.reduceSub, ↓reduceIte, reduceCtorEq, e2, wrap_nat hb]
    | false =>
    cases h6 : decide (op = 6) with
    | true =>
      obtain ⟨x1, x2⟩ := hm (by simpa using h6)
      have g1 := timesR max (tSs body).cut m1.cut ⟨by omega, by omega⟩ A
      rw [K.times_cut m1 (by omega)] at g1
      have nm := m1.mul (n := max) (by omega)
      have p1 := plusR (ownK op a b).cut ((tSs body).mul max).cut no.cut nm.cut A
      rw [K.plus_cut no nm] at p1
      have nz : K.Nn ⟨max, 0, 0, 0⟩ := ⟨by show 0 ≤ max; omega, Int.le_refl _, Int.le_refl _, Int.le_refl _⟩
      have oz : K.Ok ⟨max, 0, 0, 0⟩ := ⟨(⟨by omega, by omega⟩ : 0 ≤ max ∧ max ≤ 100000), (by decide : (0 : Int) ≤ 0 ∧ (0 : Int) ≤ 100000), (by decide : (0 : Int) ≤ 0 ∧ (0 : Int) ≤ 100000), (by decide : (0 : Int) ≤ 0 ∧ (0 : Int) ≤ 100000)⟩
      have p2 := plusR ((ownK op a b).add ((tSs body).mul max)).cut ⟨max, 0, 0, 0⟩ (no.add nm).cut oz A
      rw [K.plus_cutl (no.add nm) nz] at p2
      have t1 : tS (.mk op name max a b body els) = ((ownK op a b).add ((tSs body).mul max)).add ⟨max, 0, 0, 0⟩ := by
        simp only [tS, h5, h6, Bool.false_eq_true, if_false, if_true]
        simp only [K.add, K.mk.injEq]
        refine ⟨?_, ?_, ?_, ?_⟩ <;> omega
      rw [t1] at p0 e2
      simp (maxSteps := 1000000) only [go_sem, acondK_bool, acB_merge, Nat.reduceLT, Nat.reduceLeDiff, Nat.reduceEqDiff, Nat.reduceAdd, Nat.reduceSub, Nat.reduceMul, Nat.reduceBEq, Nat.reduceBNe, Nat.reduceBneDiff, Nat.reduceBeqDiff, Int.reduceToNat, Int.reduceLE, Int.reduceLT, Int.reduceEq, Int.reduceNe, Int.reduceNeg, Int.reduceAdd, Int.reduceSub, ↓reduceIte, reduceCtorEq, k_drawn_t, e3, e4, o1, h5, h6]
      simp (maxSteps := 1000000) only [go_sem, acondK_bool, acB_merge, Nat.reduceLT, Nat.reduceLeDiff, Nat.reduceEqDiff, Nat.reduceAdd, Nat.reduceSub, Nat.reduceMul, Nat.reduceBEq, Nat.reduceBNe, Nat.reduceBneDiff, Nat.reduceBeqDiff, Int.reduceToNat, Int.reduceLE, Int.reduceLT, Int.reduceEq, Int.reduceNe, Int.reduceNeg, Int.reduceAdd, Int.reduceSub, ↓reduceIte, reduceCtorEq, k_drawn_t, b1, g1, p1, p2]
      refine Eq.trans (ctE_ok (by repeat (first | exact MLe.nil | apply MLe.qq | apply MLe.q | apply MLe.o | apply MLe.b | apply MLe.l)) (by kernel_rfl)) ?_
      simp (maxSteps := 1000000) only [go_sem, acondK_bool, acB_merge, Nat.reduceLT, Nat.reduceLeDiff, Nat.reduceEqDiff, Nat.reduceAdd, Nat.reduceSub, Nat.reduceMul, Nat.reduceBEq, Nat.reduceBNe, Nat.reduceBneDiff, Nat.reduceBeqDiff, Int.reduceToNat, Int.reduceLE, Int.reduceLT, Int.reduceEq, Int.reduceNe, Int.reduceNeg, Int.reduceAdd, Int.reduceSub, ↓reduceIte, reduceCtorEq, k_drawn_t, p0]
      simp (maxSteps := 1000000) only [go_sem, acondK_bool, acB_merge, Nat.reduceLT, Nat.reduceLeDiff, Nat.reduceEqDiff, Nat.reduceAdd, Nat.reduceSub, Nat.reduceMul, Nat.reduceBEq, Nat.reduceBNe, Nat.reduceBneDiff, Nat.reduceBeqDiff, Int.reduceToNat, Int.reduceLE, Int.reduceLT, Int.reduceEq, Int.reduceNe, Int.reduceNeg, Int.reduceAdd, Int.reduceSub, ↓reduceIte, reduceCtorEq, e2, wrap_nat hb]
    | false =>
      have t1 : tS (.mk op name max a b body els) = ownK op a b := by simp only [tS, h5, h6, Bool.false_eq_true, if_false]
      rw [t1] at p0 e2
      simp (maxSteps := 1000000) only [go_sem, acondK_bool, acB_merge, Nat.reduceLT, Nat.reduceLeDiff, Nat.reduceEqDiff, Nat.reduceAdd, Nat.reduceSub, Nat.reduceMul, Nat.reduceBEq, Nat.reduceBNe, Nat.reduceBneDiff, Nat.reduceBeqDiff, Int.reduceToNat, Int.reduceLE, Int.reduceLT, Int.reduceEq, Int.reduceNe, Int.reduceNeg, Int.reduceAdd, Int.reduceSub, ↓reduceIte, reduceCtorEq, k_drawn_t, e3, e4, o1, h5, h6, p0]
      simp (maxSteps := 1000000) only [go_sem, acondK_bool, acB_merge, Nat.reduceLT, Nat.reduceLeDiff, Nat.reduceEqDiff, Nat.reduceAdd, Nat.reduceSub, Nat.reduceMul, Nat.reduceBEq, Nat.reduceBNe, Nat.reduceBneDiff, Nat.reduceBeqDiff, Int.reduceToNat, Int.reduceLE, Int.reduceLT, Int.reduceEq, Int.reduceNe, Int.reduceNeg, Int.reduceAdd, Int.reduceSub, ↓reduceIte, reduceCtorEq, e2, wrap_nat hb]
theorem bodyK_in : ∀ x : Stm, x.Ok → ∀ d, (∀ y k, Vis.s y k ∈ visS x d → stmtS y k = 0) → BodyK x.body ∧ BodyK x.els := by
  intro x
  induction x using Stm.ind with
  | h op name max a b body els ihb ihe =>
    intro hok d hv
    obtain ⟨f1, f2⟩ := stmFit2 hok
    have hvb : ∀ y k, Vis.s y k ∈ visSs body (IntKind.i64.wrap (d + 1)) → stmtS y k = 0 := fun y k hy => hv y k (vis_body _ hy)
    have hve : ∀ y k, Vis.s y k ∈ visSs els (IntKind.i64.wrap (d + 1)) → stmtS y k = 0 := fun y k hy => hv y k (vis_els _ hy)
    exact ⟨bodyK_of body f1 (Stm.Ok.bodyOk hok) _ hvb fun y hy => ihb y hy (Stm.Ok.bodyOk hok y hy) _ fun z k hz => hvb z k (visSs_mem hy _ _ hz),
      bodyK_of els f2 (Stm.Ok.elsOk hok) _ hve fun y hy => ihe y hy (Stm.Ok.elsOk hok y hy) _ fun z k hz => hve z k (visSs_mem hy _ _ hz)⟩
theorem bodyKp (p : Pr) (hp : p.Ok) (V : Vld p) : BodyK p.body :=
  bodyK_of p.body hp.bfit hp.body 1 V.stm fun y hy => bodyK_in y (hp.body y hy) 1 fun z k hz => V.stm z k (visSs_mem hy _ _ hz)
theorem ofR13 (p : Pr) (hp : p.Ok) (A : AHeap) : acl C 55 [Pr.av p] A = some (.tuple [(costS p).av, .d (.bool (decide (detS p = 0)))], A) := by
  have d1 := detR p hp A
  rw [k_call (c := C) (f := 55) rfl Tryz.func55 rfl (ok 55 (by kernel_rfl)) rfl Tryz.ntmps55 Tryz.results55 (by simp)]
  unfold costS
  cases c1 : decide (detS p = 0) with
  | false => simp (maxSteps := 1000000) only [go_sem, acondK_bool, acB_merge, Nat.reduceLT, Nat.reduceLeDiff, Nat.reduceEqDiff, Nat.reduceAdd, Nat.reduceSub, Nat.reduceMul, Nat.reduceBEq, Nat.reduceBNe, Nat.reduceBneDiff, Nat.reduceBeqDiff, Int.reduceToNat, Int.reduceLE, Int.reduceLT, Int.reduceEq, Int.reduceNe, Int.reduceNeg, Int.reduceAdd, Int.reduceSub, ↓reduceIte, reduceCtorEq, k_drawn_q, d1, c1]
  | true =>
    have b1 := bodyKp p hp (det_vld (by simpa using c1)) A
    simp (maxSteps := 1000000) only [go_sem, acondK_bool, acB_merge, Nat.reduceLT, Nat.reduceLeDiff, Nat.reduceEqDiff, Nat.reduceAdd, Nat.reduceSub, Nat.reduceMul, Nat.reduceBEq, Nat.reduceBNe, Nat.reduceBneDiff, Nat.reduceBeqDiff, Int.reduceToNat, Int.reduceLE, Int.reduceLT, Int.reduceEq, Int.reduceNe, Int.reduceNeg, Int.reduceAdd, Int.reduceSub, ↓reduceIte, reduceCtorEq, k_drawn_q, d1, c1, b1]
theorem checkR13 (p : Pr) (hp : p.Ok) (A : AHeap) : acl C 31 [Pr.av p] A = some (.d (.int .i64 (costC p)), A) := by
  have d1 := detR p hp A
  have o1 := ofR13 p hp A
  rw [k_call (c := C) (f := 31) rfl Tryz.func31 rfl (ok 31 (by kernel_rfl)) rfl Tryz.ntmps31 Tryz.results31 (by simp)]
  unfold costC
  unfold costS at o1
  cases c1 : decide (detS p = 0) with
  | false => simp (maxSteps := 1000000) only [go_sem, acondK_bool, acB_merge, Nat.reduceLT, Nat.reduceLeDiff, Nat.reduceEqDiff, Nat.reduceAdd, Nat.reduceSub, Nat.reduceMul, Nat.reduceBEq, Nat.reduceBNe, Nat.reduceBneDiff, Nat.reduceBeqDiff, Int.reduceToNat, Int.reduceLE, Int.reduceLT, Int.reduceEq, Int.reduceNe, Int.reduceNeg, Int.reduceAdd, Int.reduceSub, ↓reduceIte, reduceCtorEq, k_drawn_q, d1, c1]
  | true =>
    rw [c1, if_pos rfl] at o1
    unfold limS
    generalize (tSs p.body).cut = k at *
    cases q1 : decide (16384 < k.s) with
    | true => simp (maxSteps := 1000000) only [go_sem, acondK_bool, acB_merge, Nat.reduceLT, Nat.reduceLeDiff, Nat.reduceEqDiff, Nat.reduceAdd, Nat.reduceSub, Nat.reduceMul, Nat.reduceBEq, Nat.reduceBNe, Nat.reduceBneDiff, Nat.reduceBeqDiff, Int.reduceToNat, Int.reduceLE, Int.reduceLT, Int.reduceEq, Int.reduceNe, Int.reduceNeg, Int.reduceAdd, Int.reduceSub, ↓reduceIte, reduceCtorEq, k_drawn_q, d1, c1, o1, q1]
    | false => cases q2 : decide (64 < k.g) <;> cases q3 : decide (64 < k.p) <;> cases q4 : decide (16 < k.e) <;> simp (maxSteps := 1000000) only [go_sem, acondK_bool, acB_merge, Nat.reduceLT, Nat.reduceLeDiff, Nat.reduceEqDiff, Nat.reduceAdd, Nat.reduceSub, Nat.reduceMul, Nat.reduceBEq, Nat.reduceBNe, Nat.reduceBneDiff, Nat.reduceBeqDiff, Int.reduceToNat, Int.reduceLE, Int.reduceLT, Int.reduceEq, Int.reduceNe, Int.reduceNeg, Int.reduceAdd, Int.reduceSub, ↓reduceIte, reduceCtorEq, k_drawn_q, d1, c1, o1, q1, q2, q3, q4]
end Go.Proofs.YtjmghomnbmbjnaaGreat
