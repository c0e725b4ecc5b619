/- Counts: their sums, multiples, greater ones, on both sides. -/
import Derived.Test.YtjmghomnbmbjnaaGreatSeatL
import Derived.Test.YtjmghomnbmbjnaaGreatSeatE
set_option linter.unusedVariables false
set_option linter.unusedSimpArgs false
set_option linter.all false
set_option linter.deprecated false
set_option linter.all false
namespace Go.Proofs.YtjmghomnbmbjnaaGreat
open Go.Abs
attribute [local congr] ite_congr
set_option maxRecDepth 10000
structure K where
  s : Int
  g : Int
  p : Int
  e : Int
abbrev K.av (k : K) : AV := .agg [.d (.int .i64 k.s), .d (.int .i64 k.g), .d (.int .i64 k.p), .d (.int .i64 k.e)]
def cut (n : Int) : Int := if 16385 < n then 16385 else n
def mx (a b : Int) : Int := if b > a then b else a
def K.plus (a b : K) : K := ⟨cut (a.s + b.s), cut (a.g + b.g), cut (a.p + b.p), cut (a.e + b.e)⟩
def K.times (a : K) (n : Int) : K := ⟨cut (a.s * n), cut (a.g * n), cut (a.p * n), cut (a.e * n)⟩
def K.larger (a b : K) : K := ⟨mx a.s b.s, mx a.g b.g, mx a.p b.p, mx a.e b.e⟩
structure K.Ok (a : K) : Prop where
  s : 0 ≤ a.s ∧ a.s ≤ 100000
  g : 0 ≤ a.g ∧ a.g ≤ 100000
  p : 0 ≤ a.p ∧ a.p ≤ 100000
  e : 0 ≤ a.e ∧ a.e ≤ 100000
theorem cut_ok {n : Int} (h : 0 ≤ n) : 0 ≤ cut n ∧ cut n ≤ 100000 := by unfold cut; split <;> omega
theorem wadd {a b : Int} (ha : 0 ≤ a ∧ a ≤ 100000) (hb : 0 ≤ b ∧ b ≤ 100000) : IntKind.i64.wrap (a + b) = a + b := by rw [wrap_in] <;> omega
theorem wmul {a n : Int} (ha : 0 ≤ a ∧ a ≤ 100000) (hn : 0 ≤ n ∧ n ≤ 1000) : IntKind.i64.wrap (a * n) = a * n := by
  have h1 := Int.mul_nonneg ha.1 hn.1
  have h2 : a * n ≤ 100000 * 1000 := Int.mul_le_mul ha.2 hn.2 hn.1 (by decide)
  rw [wrap_in] <;> omega
def aplK (A : AHeap) (n : Nat) (p : Option (Nat × Nat)) : Option (Slot × AHeap) := match p with
  | some (s, o) => some (.place s (o + n), A)
  | none => none
@[go_sem] theorem aplK_some {A : AHeap} {n s o : Nat} : aplK A n (some (s, o)) = some (.place s (o + n), A) := by rfl
theorem ixK (c : ACtx) (hc : c.P = Tryz.prog) {env : AEnv} {A : AHeap} {x : Operand} {k : IntKind} (n : Nat) (hn : n < 4) : aindexK c env A 94 x (some (.d (.int k (n : Int)))) = aplK A n (aplace env x) := by
  rw [aindexK_array (h := by rw [hc]; exact arr_94)]
  unfold aindexP aplK
  cases aplace env x with
  | none => rfl
  | some p =>
    simp only
    rw [if_pos (by omega)]
    simp
section
variable {env : AEnv} {A : AHeap} {x : Operand} {k : IntKind}
@[go_sem] theorem ix0 : aindexK C env A 94 x (some (.d (.int k 0))) = aplK A 0 (aplace env x) := ixK C rfl 0 (by decide)
@[go_sem] theorem ix1 : aindexK C env A 94 x (some (.d (.int k 1))) = aplK A 1 (aplace env x) := ixK C rfl 1 (by decide)
@[go_sem] theorem ix2 : aindexK C env A 94 x (some (.d (.int k 2))) = aplK A 2 (aplace env x) := ixK C rfl 2 (by decide)
@[go_sem] theorem ix3 : aindexK C env A 94 x (some (.d (.int k 3))) = aplK A 3 (aplace env x) := ixK C rfl 3 (by decide)
@[go_sem] theorem iy0 : aindexK C.noesc env A 94 x (some (.d (.int k 0))) = aplK A 0 (aplace env x) := ixK C.noesc rfl 0 (by decide)
@[go_sem] theorem iy1 : aindexK C.noesc env A 94 x (some (.d (.int k 1))) = aplK A 1 (aplace env x) := ixK C.noesc rfl 1 (by decide)
@[go_sem] theorem iy2 : aindexK C.noesc env A 94 x (some (.d (.int k 2))) = aplK A 2 (aplace env x) := ixK C.noesc rfl 2 (by decide)
@[go_sem] theorem iy3 : aindexK C.noesc env A 94 x (some (.d (.int k 3))) = aplK A 3 (aplace env x) := ixK C.noesc rfl 3 (by decide)
end
@[go_sem] theorem wl1 : IntKind.i64.wrap 1 = 1 := by decide
@[go_sem] theorem wl2 : IntKind.i64.wrap 2 = 2 := by decide
@[go_sem] theorem wl3 : IntKind.i64.wrap 3 = 3 := by decide
@[go_sem] theorem wl4 : IntKind.i64.wrap 4 = 4 := by decide
theorem plusP (a b : K) (ha : a.Ok) (hb : b.Ok) (A : AHeap) : acl C 82 [a.av, b.av] A = some ((a.plus b).av, A) := by
  have w1 := wadd ha.s hb.s
  have w2 := wadd ha.g hb.g
  have w3 := wadd ha.p hb.p
  have w4 := wadd ha.e hb.e
  have q : ∀ n, (if 16385 < n then (16385 : Int) else n) = cut n := fun _ => rfl
  rw [k_call (c := C) (f := 82) rfl Tryz.func82 rfl (ok 82 (by kernel_rfl)) rfl Tryz.ntmps82 Tryz.results82 (by simp)]
  simp (maxSteps := 1000000) only [go_sem, acondK_bool, acB_merge, Nat.reduceLT, Nat.reduceLeDiff, Nat.reduceEqDiff, Nat.reduceAdd, Nat.reduceSub, Nat.reduceMul, Nat.reduceBEq, Nat.reduceBNe, Nat.reduceBneDiff, Nat.reduceBeqDiff, Int.reduceToNat, Int.reduceLE, Int.reduceLT, Int.reduceEq, Int.reduceNe, Int.reduceNeg, Int.reduceAdd, Int.reduceSub, ↓reduceIte, reduceCtorEq, k_drawn_t, w1, w2, w3, w4, q]
  iterate 4
    rw [unroll]
    simp (maxSteps := 1000000) only [go_sem, acondK_bool, acB_merge, Nat.reduceLT, Nat.reduceLeDiff, Nat.reduceEqDiff, Nat.reduceAdd, Nat.reduceSub, Nat.reduceMul, Nat.reduceBEq, Nat.reduceBNe, Nat.reduceBneDiff, Nat.reduceBeqDiff, Int.reduceToNat, Int.reduceLE, Int.reduceLT, Int.reduceEq, Int.reduceNe, Int.reduceNeg, Int.reduceAdd, Int.reduceSub, ↓reduceIte, reduceCtorEq, k_drawn_t, w1, w2, w3, w4, q]
    refine Eq.trans (ctE_ok (by repeat (first | exact MLe.nil | apply MLe.qq | apply MLe.q | apply MLe.o | apply MLe.b | apply MLe.l)) (by kernel_rfl)) ?_
    simp (maxSteps := 1000000) only [go_sem, acondK_bool, acB_merge, Nat.reduceLT, Nat.reduceLeDiff, Nat.reduceEqDiff, Nat.reduceAdd, Nat.reduceSub, Nat.reduceMul, Nat.reduceBEq, Nat.reduceBNe, Nat.reduceBneDiff, Nat.reduceBeqDiff, Int.reduceToNat, Int.reduceLE, Int.reduceLT, Int.reduceEq, Int.reduceNe, Int.reduceNeg, Int.reduceAdd, Int.reduceSub, ↓reduceIte, reduceCtorEq, k_drawn_t, w1, w2, w3, w4, q]
  rw [unroll]
  simp (maxSteps := 1000000) only [go_sem, acondK_bool, acB_merge, Nat.reduceLT, Nat.reduceLeDiff, Nat.reduceEqDiff, Nat.reduceAdd, Nat.reduceSub, Nat.reduceMul, Nat.reduceBEq, Nat.reduceBNe, Nat.reduceBneDiff, Nat.reduceBeqDiff, Int.reduceToNat, Int.reduceLE, Int.reduceLT, Int.reduceEq, Int.reduceNe, Int.reduceNeg, Int.reduceAdd, Int.reduceSub, ↓reduceIte, reduceCtorEq, k_drawn_t, w1, w2, w3, w4, q]
  rfl
theorem timesP (a : K) (n : Int) (ha : a.Ok) (hn : 0 ≤ n ∧ n ≤ 1000) (A : AHeap) : acl C 112 [a.av, .d (.int .i64 n)] A = some ((a.times n).av, A) := by
  have w1 := wmul ha.s hn
  have w2 := wmul ha.g hn
  have w3 := wmul ha.p hn
  have w4 := wmul ha.e hn
  have q : ∀ n, (if 16385 < n then (16385 : Int) else n) = cut n := fun _ => rfl
  rw [k_call (c := C) (f := 112) rfl Tryz.func112 rfl (ok 112 (by kernel_rfl)) rfl Tryz.ntmps112 Tryz.results112 (by simp)]
  simp (maxSteps := 1000000) only [go_sem, acondK_bool, acB_merge, Nat.reduceLT, Nat.reduceLeDiff, Nat.reduceEqDiff, Nat.reduceAdd, Nat.reduceSub, Nat.reduceMul, Nat.reduceBEq, Nat.reduceBNe, Nat.reduceBneDiff, Nat.reduceBeqDiff, Int.reduceToNat, Int.reduceLE, Int.reduceLT, Int.reduceEq, Int.reduceNe, Int.reduceNeg, Int.reduceAdd, Int.reduceSub, ↓reduceIte, reduceCtorEq, k_drawn_t, w1, w2, w3, w4, q]
  iterate 4
    rw [unroll]
    simp (maxSteps := 1000000) only [go_sem, acondK_bool, acB_merge, Nat.reduceLT, Nat.reduceLeDiff, Nat.reduceEqDiff, Nat.reduceAdd, Nat.reduceSub, Nat.reduceMul, Nat.reduceBEq, Nat.reduceBNe, Nat.reduceBneDiff, Nat.reduceBeqDiff, Int.reduceToNat, Int.reduceLE, Int.reduceLT, Int.reduceEq, Int.reduceNe, Int.reduceNeg, Int.reduceAdd, Int.reduceSub, ↓reduceIte, reduceCtorEq, k_drawn_t, w1, w2, w3, w4, q]
  rw [unroll]
  simp (maxSteps := 1000000) only [go_sem, acondK_bool, acB_merge, Nat.reduceLT, Nat.reduceLeDiff, Nat.reduceEqDiff, Nat.reduceAdd, Nat.reduceSub, Nat.reduceMul, Nat.reduceBEq, Nat.reduceBNe, Nat.reduceBneDiff, Nat.reduceBeqDiff, Int.reduceToNat, Int.reduceLE, Int.reduceLT, Int.reduceEq, Int.reduceNe, Int.reduceNeg, Int.reduceAdd, Int.reduceSub, ↓reduceIte, reduceCtorEq, k_drawn_t, w1, w2, w3, w4, q]
  rfl
theorem largerP (a b : K) (A : AHeap) : acl C 111 [a.av, b.av] A = some ((a.larger b).av, A) := by
  have q : ∀ a b : Int, (if b > a then b else a) = mx a b := fun _ _ => rfl
  rw [k_call (c := C) (f := 111) rfl Tryz.func111 rfl (ok 111 (by kernel_rfl)) rfl Tryz.ntmps111 Tryz.results111 (by simp)]
  simp (maxSteps := 1000000) only [go_sem, acondK_bool, acB_merge, Nat.reduceLT, Nat.reduceLeDiff, Nat.reduceEqDiff, Nat.reduceAdd, Nat.reduceSub, Nat.reduceMul, Nat.reduceBEq, Nat.reduceBNe, Nat.reduceBneDiff, Nat.reduceBeqDiff, Int.reduceToNat, Int.reduceLE, Int.reduceLT, Int.reduceEq, Int.reduceNe, Int.reduceNeg, Int.reduceAdd, Int.reduceSub, ↓reduceIte, reduceCtorEq, k_drawn_t, q]
  iterate 4
    rw [unroll]
    simp (maxSteps := 1000000) only [go_sem, acondK_bool, acB_merge, Nat.reduceLT, Nat.reduceLeDiff, Nat.reduceEqDiff, Nat.reduceAdd, Nat.reduceSub, Nat.reduceMul, Nat.reduceBEq, Nat.reduceBNe, Nat.reduceBneDiff, Nat.reduceBeqDiff, Int.reduceToNat, Int.reduceLE, Int.reduceLT, Int.reduceEq, Int.reduceNe, Int.reduceNeg, Int.reduceAdd, Int.reduceSub, ↓reduceIte, reduceCtorEq, k_drawn_t, q]
    refine Eq.trans (ctE_ok (by repeat (first | exact MLe.nil | apply MLe.qq | apply MLe.q | apply MLe.o | apply MLe.b | apply MLe.l)) (by kernel_rfl)) ?_
    simp (maxSteps := 1000000) only [go_sem, acondK_bool, acB_merge, Nat.reduceLT, Nat.reduceLeDiff, Nat.reduceEqDiff, Nat.reduceAdd, Nat.reduceSub, Nat.reduceMul, Nat.reduceBEq, Nat.reduceBNe, Nat.reduceBneDiff, Nat.reduceBeqDiff, Int.reduceToNat, Int.reduceLE, Int.reduceLT, Int.reduceEq, Int.reduceNe, Int.reduceNeg, Int.reduceAdd, Int.reduceSub, ↓reduceIte, reduceCtorEq, k_drawn_t, q]
  rw [unroll]
  simp (maxSteps := 1000000) only [go_sem, acondK_bool, acB_merge, Nat.reduceLT, Nat.reduceLeDiff, Nat.reduceEqDiff, Nat.reduceAdd, Nat.reduceSub, Nat.reduceMul, Nat.reduceBEq, Nat.reduceBNe, Nat.reduceBneDiff, Nat.reduceBeqDiff, Int.reduceToNat, Int.reduceLE, Int.reduceLT, Int.reduceEq, Int.reduceNe, Int.reduceNeg, Int.reduceAdd, Int.reduceSub, ↓reduceIte, reduceCtorEq, k_drawn_t, q]
  rfl
end Go.Proofs.YtjmghomnbmbjnaaGreat
set_option linter.all false
namespace Go.Proofs.YtjmghomnbmbjnaaGreat
open Go.Abs
attribute [local congr] ite_congr
set_option maxRecDepth 10000
mutual
def tE : E → Int
  | .mk op _ _ args => (if rdS op = true then 1 else 0) + tEs args
def tEs : List E → Int
  | [] => 0
  | x :: l => tE x + tEs l
end
mutual
theorem tE_nn : ∀ e, 0 ≤ tE e
  | .mk op n s args => by
    have := tEs_nn args
    simp only [tE]
    split <;> omega
theorem tEs_nn : ∀ l, 0 ≤ tEs l
  | [] => by simp [tEs]
  | x :: l => by
    have := tE_nn x
    have := tEs_nn l
    simp only [tEs]
    omega
end
theorem cut_cut {a b : Int} (hb : 0 ≤ b) (ha : 0 ≤ a) : cut (a + cut b) = cut (a + b) := by unfold cut; repeat' split <;> omega
theorem cut_cut2 {a b : Int} (hb : 0 ≤ b) (ha : 0 ≤ a) : cut (cut a + cut b) = cut (a + b) := by unfold cut; repeat' split <;> omega
theorem cut_nn {a : Int} (h : 0 ≤ a) : 0 ≤ cut a := (cut_ok h).1
theorem cut_mx {a b : Int} (ha : 0 ≤ a) (hb : 0 ≤ b) : mx (cut a) (cut b) = cut (mx a b) := by unfold cut mx; repeat' split <;> omega
theorem cut_mul {a n : Int} (ha : 0 ≤ a) (hn : 0 ≤ n) : cut (cut a * n) = cut (a * n) := by
  by_cases h : 16385 < a
  · have h1 : cut a = 16385 := by unfold cut; rw [if_pos h]
    rw [h1]
    rcases Int.lt_or_le n 1 with h2 | h2
    · obtain rfl : n = 0 := by omega
      simp
    · have h3 : 16385 * n ≤ a * n := Int.mul_le_mul_of_nonneg_right (by omega) hn
      have h4 : 16385 * 1 ≤ 16385 * n := Int.mul_le_mul_of_nonneg_left h2 (by decide)
      have h5 : a * 1 ≤ a * n := Int.mul_le_mul_of_nonneg_left h2 ha
      unfold cut
      rw [if_pos (show 16385 < a * n by omega)]
      split <;> omega
  · have h1 : cut a = a := by unfold cut; rw [if_neg h]
    rw [h1]
def cEs : List E → Int
  | [] => 0
  | x :: l => cut (tE x) + cEs l
theorem cEs_snoc : ∀ (l : List E) (x : E), cEs (l ++ [x]) = cEs l + cut (tE x)
  | [], x => by simp [cEs]
  | y :: l, x => by simp only [List.cons_append, cEs, cEs_snoc l x]; omega
theorem cEs_bound : ∀ (l : List E), 0 ≤ cEs l ∧ cEs l ≤ 16385 * l.length
  | [] => by simp [cEs]
  | x :: l => by
    have h1 := cEs_bound l
    have h2 : 0 ≤ cut (tE x) ∧ cut (tE x) ≤ 16385 := by
      have := tE_nn x
      unfold cut; split <;> omega
    simp only [cEs, List.length_cons]
    push_cast
    omega
theorem cut_cEs : ∀ (l : List E) (o : Int), 0 ≤ o → cut (o + cEs l) = cut (o + tEs l)
  | [], o, _ => rfl
  | x :: l, o, ho => by
    have h1 := tE_nn x
    have h2 := tEs_nn l
    have h3 := (cEs_bound l).1
    simp only [cEs, tEs]
    rw [show o + (cut (tE x) + cEs l) = (o + cut (tE x)) + cEs l by omega, cut_cEs l _ (by have := cut_nn h1; omega),
      show o + cut (tE x) + tEs l = (o + tEs l) + cut (tE x) by omega, cut_cut h1 (by omega)]
    congr 1
    omega
theorem cut_eq (n : Int) : (if 16385 < n then (16385 : Int) else n) = cut n := rfl
theorem readsC : ∀ e, E.Ok e → ∀ (A : AHeap), acl C 110 [E.av e] A = some (.d (.int .i64 (cut (tE e))), A) := by
  intro e
  induction e using E.ind with
  | h op n s args ih =>
    intro hok A
    have hlen := hok.fit
    obtain ⟨o, ho⟩ : ∃ o : Int, o = if rdS op = true then 1 else 0 := ⟨_, rfl⟩
    have ho2 : 0 ≤ o ∧ o ≤ 1 := by rw [ho]; split <;> omega
    have key : ∀ (r : Option (AV × AHeap)), r = some (.d (.int .i64 (cut (o + cEs args))), A) → r = some (.d (.int .i64 (cut (tE (.mk op n s args)))), A) := by
      intro r hr
      rw [hr, cut_cEs args o ho2.1, tE, ← ho]
    apply key
    have loopq : ∀ (F : AF) (ks : List KF) (body : Code), F = ⟨C, 110, 26, [.tmp 2], A⟩ → True := fun _ _ _ _ => trivial
    rw [k_call (c := C) (f := 110) rfl Tryz.func110 rfl (ok 110 (by kernel_rfl)) rfl Tryz.ntmps110 Tryz.results110 (by simp)]
    unfold rdS at ho
    cases h1 : decide (op = 22) <;> cases h2 : decide (op = 23) <;> cases h3 : decide (op = 24) <;> rw [h1, h2, h3] at ho <;> simp only [Bool.or_false, Bool.or_true, Bool.or_self, Bool.false_eq_true, if_true, if_false] at ho <;> subst ho <;> simp (maxSteps := 1000000) only [go_sem, acondK_bool, acB_merge, Nat.reduceLT, Nat.reduceLeDiff, Nat.reduceEqDiff, Nat.reduceAdd, Nat.reduceSub, Nat.reduceMul, Nat.reduceBEq, Nat.reduceBNe, Nat.reduceBneDiff, Nat.reduceBeqDiff, Int.reduceToNat, Int.reduceLE, Int.reduceLT, Int.reduceEq, Int.reduceNe, Int.reduceNeg, Int.reduceAdd, Int.reduceSub, ↓reduceIte, reduceCtorEq, h1, h2, h3]
    all_goals
      refine loop_any (fun pre => [(3, .v (.d (.int .i64 (_ + cEs pre)))), (15, .v (.d (.int .i64 (pre.length : Nat)))), (13, .v (.d (.slice (args.map E.row)))), (14, .v (.d (.int .i64 (args.length : Nat))))])
        (fun _ => A) (fun _ _ => some (.d (.int .i64 (cut (_ + cEs args))), A)) args (by simp only [cEs, Int.add_zero]; rfl) rfl rfl ?_
    all_goals
      intro pre suf hl ih2
      have hb : pre.length < 9223372036854775807 := by rw [hl] at hlen; simp at hlen; omega
      cases suf with
      | nil =>
        rw [List.append_nil] at hl
        subst hl
        have e4 : decide ((args.length : Int) < (args.length : Int)) = false := by simp
        simp (maxSteps := 1000000) only [go_sem, acondK_bool, acB_merge, Nat.reduceLT, Nat.reduceLeDiff, Nat.reduceEqDiff, Nat.reduceAdd, Nat.reduceSub, Nat.reduceMul, Nat.reduceBEq, Nat.reduceBNe, Nat.reduceBneDiff, Nat.reduceBeqDiff, Int.reduceToNat, Int.reduceLE, Int.reduceLT, Int.reduceEq, Int.reduceNe, Int.reduceNeg, Int.reduceAdd, Int.reduceSub, ↓reduceIte, reduceCtorEq, e4, cut_eq]
      | cons x suf =>
        have hx : x ∈ args := by rw [hl]; simp
        have e1 := ih x hx (hok.arg x hx) A
        have e2 := ih2 x suf rfl
        rw [List.length_append, List.length_cons, List.length_nil, cEs_snoc, ← Int.add_assoc] at e2
        have e3 : (args.map E.row)[pre.length]? = some (E.row x) := by rw [hl]; exact map_mid
        have e4 : decide ((pre.length : Int) < (args.length : Int)) = true := by rw [hl]; simp; omega
        rw [E.row_eq] at e3
        have c1 := cEs_bound pre
        have c2 : 0 ≤ cut (tE x) ∧ cut (tE x) ≤ 16385 := by
          have := tE_nn x
          unfold cut; split <;> omega
        have hpl : pre.length ≤ 4194303 := by rw [hl] at hlen; simp at hlen; omega
        have w0 : IntKind.i64.wrap (0 + cEs pre + cut (tE x)) = 0 + cEs pre + cut (tE x) := by rw [wrap_in] <;> omega
        have w1 : IntKind.i64.wrap (1 + cEs pre + cut (tE x)) = 1 + cEs pre + cut (tE x) := by rw [wrap_in] <;> omega
        simp (maxSteps := 1000000) only [go_sem, acondK_bool, acB_merge, Nat.reduceLT, Nat.reduceLeDiff, Nat.reduceEqDiff, Nat.reduceAdd, Nat.reduceSub, Nat.reduceMul, Nat.reduceBEq, Nat.reduceBNe, Nat.reduceBneDiff, Nat.reduceBeqDiff, Int.reduceToNat, Int.reduceLE, Int.reduceLT, Int.reduceEq, Int.reduceNe, Int.reduceNeg, Int.reduceAdd, Int.reduceSub, ↓reduceIte, reduceCtorEq, e3, e4, e1, e2, w0, w1, wrap_nat hb]
end Go.Proofs.YtjmghomnbmbjnaaGreat
set_option linter.all false
namespace Go.Proofs.YtjmghomnbmbjnaaGreat
open Go.Abs
attribute [local congr] ite_congr
set_option maxRecDepth 10000
def K.add (a b : K) : K := ⟨a.s + b.s, a.g + b.g, a.p + b.p, a.e + b.e⟩
def K.mul (a : K) (n : Int) : K := ⟨a.s * n, a.g * n, a.p * n, a.e * n⟩
def K.lar (a b : K) : K := ⟨mx a.s b.s, mx a.g b.g, mx a.p b.p, mx a.e b.e⟩
def K.cut (a : K) : K := ⟨Go.Proofs.YtjmghomnbmbjnaaGreat.cut a.s, Go.Proofs.YtjmghomnbmbjnaaGreat.cut a.g, Go.Proofs.YtjmghomnbmbjnaaGreat.cut a.p, Go.Proofs.YtjmghomnbmbjnaaGreat.cut a.e⟩
structure K.Nn (a : K) : Prop where
  s : 0 ≤ a.s
  g : 0 ≤ a.g
  p : 0 ≤ a.p
  e : 0 ≤ a.e
theorem K.Nn.add {a b : K} (ha : a.Nn) (hb : b.Nn) : (a.add b).Nn := ⟨Int.add_nonneg ha.s hb.s, Int.add_nonneg ha.g hb.g, Int.add_nonneg ha.p hb.p, Int.add_nonneg ha.e hb.e⟩
theorem mx_nn {a b : Int} (ha : 0 ≤ a) (hb : 0 ≤ b) : 0 ≤ mx a b := by unfold mx; split <;> omega
theorem K.Nn.lar {a b : K} (ha : a.Nn) (hb : b.Nn) : (a.lar b).Nn := ⟨mx_nn ha.s hb.s, mx_nn ha.g hb.g, mx_nn ha.p hb.p, mx_nn ha.e hb.e⟩
theorem K.Nn.mul {a : K} (ha : a.Nn) {n : Int} (h : 0 ≤ n) : (a.mul n).Nn := ⟨Int.mul_nonneg ha.s h, Int.mul_nonneg ha.g h, Int.mul_nonneg ha.p h, Int.mul_nonneg ha.e h⟩
theorem K.Nn.cut {a : K} (h : a.Nn) : a.cut.Ok := ⟨cut_ok h.s, cut_ok h.g, cut_ok h.p, cut_ok h.e⟩
theorem K.plus_cut {a b : K} (ha : a.Nn) (hb : b.Nn) : a.cut.plus b.cut = (a.add b).cut := by
  simp only [K.plus, K.cut, K.add, cut_cut2 hb.s ha.s, cut_cut2 hb.g ha.g, cut_cut2 hb.p ha.p, cut_cut2 hb.e ha.e]
theorem K.larger_cut {a b : K} (ha : a.Nn) (hb : b.Nn) : a.cut.larger b.cut = (a.lar b).cut := by
  simp only [K.larger, K.cut, K.lar, cut_mx ha.s hb.s, cut_mx ha.g hb.g, cut_mx ha.p hb.p, cut_mx ha.e hb.e]
theorem K.times_cut {a : K} (ha : a.Nn) {n : Int} (hn : 0 ≤ n) : a.cut.times n = (a.mul n).cut := by
  simp only [K.times, K.cut, K.mul, cut_mul ha.s hn, cut_mul ha.g hn, cut_mul ha.p hn, cut_mul ha.e hn]
def ownK (op : Int) (a b : E) : K := ⟨1, tE a + tE b, if (decide (op = 3) || decide (op = 4)) = true then 1 else 0, if decide (op = 7) = true then 1 else 0⟩
theorem ownK_nn (op : Int) (a b : E) : (ownK op a b).Nn := by
  have := tE_nn a
  have := tE_nn b
  refine ⟨by unfold ownK; simp, by unfold ownK; simp; omega, ?_, ?_⟩
  · unfold ownK; simp only; split <;> omega
  · unfold ownK; simp only; split <;> omega
mutual
def tS : Stm → K
  | .mk op name max a b body els => if decide (op = 5) = true then (ownK op a b).add ((tSs body).lar (tSs els)) else if decide (op = 6) = true then (ownK op a b).add (K.add ⟨max, 0, 0, 0⟩ ((tSs body).mul max)) else ownK op a b
def tSs : List Stm → K
  | [] => ⟨0, 0, 0, 0⟩
  | x :: l => (tS x).add (tSs l)
end
theorem maxOf {x : Stm} {d : Int} (h : stmtS x d = 0) : x.op = 6 → 1 ≤ x.max ∧ x.max ≤ 16 := by
  intro h6
  unfold stmtS at h
  split at h
  · cases h
  · rename_i h1
    simp only [Bool.or_eq_true, Bool.not_eq_true', not_or, Bool.not_eq_false, Bool.and_eq_true] at h1
    have h2 := h1.2.2
    unfold maxOk at h2
    rw [if_pos (by simpa using h6)] at h2
    simpa using h2
mutual
theorem tS_nn : ∀ (x : Stm) (d : Int), (∀ y k, Vis.s y k ∈ visS x d → stmtS y k = 0) → (tS x).Nn
  | .mk op name max a b body els, d, h => by
    have h0 := h _ d (vis_self (.mk op name max a b body els) d)
    have o := ownK_nn op a b
    have n1 := tSs_nn body (IntKind.i64.wrap (d + 1)) fun y k hy => h y k (vis_body _ hy)
    have n2 := tSs_nn els (IntKind.i64.wrap (d + 1)) fun y k hy => h y k (vis_els _ hy)
    unfold tS
    split
    · exact o.add (n1.lar n2)
    · split
      · rename_i h6
        have := (maxOf h0 (by simpa using h6)).1
        change 1 ≤ max at this
        exact o.add (K.Nn.add ⟨by show 0 ≤ max; omega, Int.le_refl _, Int.le_refl _, Int.le_refl _⟩ (n1.mul (by omega)))
      · exact o
theorem tSs_nn : ∀ (l : List Stm) (d : Int), (∀ y k, Vis.s y k ∈ visSs l d → stmtS y k = 0) → (tSs l).Nn
  | [], d, _ => ⟨by simp [tSs], by simp [tSs], by simp [tSs], by simp [tSs]⟩
  | x :: l, d, h => (tS_nn x d fun y k hy => h y k (by rw [visSs]; exact List.mem_append_left _ hy)).add (tSs_nn l d fun y k hy => h y k (by rw [visSs]; exact List.mem_append_right _ hy))
end
theorem absent_tE {e : E} (h : absE e = true) : tE e = 0 := by
  obtain ⟨op, n, s, args⟩ := e
  simp [absentS] at h
  obtain ⟨⟨⟨rfl, rfl⟩, rfl⟩, rfl⟩ := h
  rfl
theorem tSs_snoc : ∀ (l : List Stm) (x : Stm), tSs (l ++ [x]) = (tSs l).add (tS x)
  | [], x => by simp [tSs, K.add]
  | y :: l, x => by simp only [List.cons_append, tSs, tSs_snoc l x, K.add, Int.add_assoc]
def CostStm (x : Stm) : Prop := ∀ A, acl C 83 [Stm.av x] A = some ((tS x).cut.av, A)
def CostBlk (l : List Stm) : Prop := ∀ A, acl C 51 [.d (.slice (l.map Stm.row))] A = some ((tSs l).cut.av, A)
theorem blockC (l : List Stm) (hlen : l.length ≤ 4194303) (d : Int) (hv : ∀ y k, Vis.s y k ∈ visSs l d → stmtS y k = 0) (ih : ∀ x ∈ l, CostStm x) : CostBlk l := by
  intro A
  rw [k_call (c := C) (f := 51) rfl Tryz.func51 rfl (ok 51 (by kernel_rfl)) rfl Tryz.ntmps51 Tryz.results51 (by simp)]
  simp (maxSteps := 1000000) only [go_sem, acondK_bool, acB_merge, Nat.reduceLT, Nat.reduceLeDiff, Nat.reduceEqDiff, Nat.reduceAdd, Nat.reduceSub, Nat.reduceMul, Nat.reduceBEq, Nat.reduceBNe, Nat.reduceBneDiff, Nat.reduceBeqDiff, Int.reduceToNat, Int.reduceLE, Int.reduceLT, Int.reduceEq, Int.reduceNe, Int.reduceNeg, Int.reduceAdd, Int.reduceSub, ↓reduceIte, reduceCtorEq]
  refine loop_any (fun pre => [(8, .v (.d (.int .i64 (pre.length : Nat)))), (3, .box [.d (.int .i64 (tSs pre).cut.s), .d (.int .i64 (tSs pre).cut.g), .d (.int .i64 (tSs pre).cut.p), .d (.int .i64 (tSs pre).cut.e)]), (6, .v (.d (.slice (l.map Stm.row)))), (2, .box [.d (.int .i64 0), .d (.int .i64 0), .d (.int .i64 0), .d (.int .i64 0)]), (7, .v (.d (.int .i64 (l.length : Nat))))])
    (fun _ => A) (fun _ _ => some ((tSs l).cut.av, A)) l rfl rfl rfl ?_
  intro pre suf hl ih2
  have hb : pre.length < 9223372036854775807 := by rw [hl] at hlen; simp at hlen; omega
  cases suf with
  | nil =>
    rw [List.append_nil] at hl
    subst hl
    have e4 : decide ((l.length : Int) < (l.length : Int)) = false := by simp
    simp (maxSteps := 1000000) only [go_sem, acondK_bool, acB_merge, Nat.reduceLT, Nat.reduceLeDiff, Nat.reduceEqDiff, Nat.reduceAdd, Nat.reduceSub, Nat.reduceMul, Nat.reduceBEq, Nat.reduceBNe, Nat.reduceBneDiff, Nat.reduceBeqDiff, Int.reduceToNat, Int.reduceLE, Int.reduceLT, Int.reduceEq, Int.reduceNe, Int.reduceNeg, Int.reduceAdd, Int.reduceSub, ↓reduceIte, reduceCtorEq, e4]
    done
  | cons x suf =>
    have hx : x ∈ l := by rw [hl]; simp
    have e1 := ih x hx A
    have e2 := ih2 x suf rfl
    rw [List.length_append, List.length_cons, List.length_nil, tSs_snoc] at e2
    have e3 : (l.map Stm.row)[pre.length]? = some (Stm.row x) := by rw [hl]; exact map_mid
    have e4 : decide ((pre.length : Int) < (l.length : Int)) = true := by rw [hl]; simp; omega
    have n1 : (tSs pre).Nn := tSs_nn pre d fun y k hy => hv y k (by rw [hl, visSs_append]; exact List.mem_append_left _ hy)
    have n2 : (tS x).Nn := tS_nn x d fun y k hy => hv y k (by rw [hl, visSs_append, visSs]; exact List.mem_append_right _ (List.mem_append_left _ hy))
    have p1 := plusP (tSs pre).cut (tS x).cut n1.cut n2.cut A
    rw [K.plus_cut n1 n2] at p1
    rw [Stm.row_eq] at e3
    simp (maxSteps := 1000000) only [go_sem, acondK_bool, acB_merge, Nat.reduceLT, Nat.reduceLeDiff, Nat.reduceEqDiff, Nat.reduceAdd, Nat.reduceSub, Nat.reduceMul, Nat.reduceBEq, Nat.reduceBNe, Nat.reduceBneDiff, Nat.reduceBeqDiff, Int.reduceToNat, Int.reduceLE, Int.reduceLT, Int.reduceEq, Int.reduceNe, Int.reduceNeg, Int.reduceAdd, Int.reduceSub, ↓reduceIte, reduceCtorEq, e3, e4, e1, p1, k_drawn_t]
    refine Eq.trans (ctE_ok (by repeat (first | exact MLe.nil | apply MLe.qq | apply MLe.q | apply MLe.o | apply MLe.b | apply MLe.l)) (by kernel_rfl)) ?_
    simp (maxSteps := 1000000) only [go_sem, acondK_bool, acB_merge, Nat.reduceLT, Nat.reduceLeDiff, Nat.reduceEqDiff, Nat.reduceAdd, Nat.reduceSub, Nat.reduceMul, Nat.reduceBEq, Nat.reduceBNe, Nat.reduceBneDiff, Nat.reduceBeqDiff, Int.reduceToNat, Int.reduceLE, Int.reduceLT, Int.reduceEq, Int.reduceNe, Int.reduceNeg, Int.reduceAdd, Int.reduceSub, ↓reduceIte, reduceCtorEq, e2, wrap_nat hb]
theorem minC (n : Int) : (if 16385 < n then (16385 : Int) else n) = cut n := rfl
theorem statementC (x : Stm) (hx : x.Ok) (d : Int) (hv : ∀ y k, Vis.s y k ∈ visS x d → stmtS y k = 0) (hb : CostBlk x.body) (he : CostBlk x.els) : CostStm x := by
  intro A
  have h0 := hv x d (vis_self x d)
  have hs := stmtS_zero h0
  have hm := maxOf h0
  obtain ⟨op, name, max, a, b, body, els⟩ := x
  have r1 := readsC a (Stm.Ok.a hx) A
  have r2 := readsC b (Stm.Ok.b hx) A
  have b1 := hb A
  have b2 := he A
  have n1 := tSs_nn body (IntKind.i64.wrap (d + 1)) fun y k hy => hv y k (vis_body _ hy)
  have n2 := tSs_nn els (IntKind.i64.wrap (d + 1)) fun y k hy => hv y k (vis_els _ hy)
  have ta := tE_nn a
  have tb := tE_nn b
  have ca : 0 ≤ cut (tE a) ∧ cut (tE a) ≤ 100000 := cut_ok ta
  have cb : 0 ≤ cut (tE b) ∧ cut (tE b) ≤ 100000 := cut_ok tb
  have wab := wadd ca cb
  have kab : cut (cut (tE a) + cut (tE b)) = cut (tE a + tE b) := cut_cut2 tb ta
  have absb : uB op = false → tE b = 0 := fun h => absent_tE (hs.nb h)
  have absa : uA op = false → tE a = 0 := fun h => absent_tE (hs.na h)
  have hop : op = 1 ∨ op = 2 ∨ op = 3 ∨ op = 4 ∨ op = 5 ∨ op = 6 ∨ op = 7 ∨ op = 8 := by
    have := hs.op
    change 1 ≤ op ∧ op ≤ 8 at this
    omega
  have c1 : cut 1 = 1 := rfl
  have c0 : cut 0 = 0 := rfl
  have hmax : op = 6 → 1 ≤ max ∧ max ≤ 16 := hm
  change CostBlk body at hb
  change CostBlk els at he
  have fin : ∀ k : K, k = (tS (.mk op name max a b body els)).cut → some ((k.av, A) : AV × AHeap) = some ((tS (.mk op name max a b body els)).cut.av, A) := fun k hk => by rw [hk]
  have base : ∀ c : Int, op = c → ∀ k, decide (op = k) = decide (c = k) := fun c h k => by rw [h]
  rw [k_call (c := C) (f := 83) rfl Tryz.func83 rfl (ok 83 (by kernel_rfl)) rfl Tryz.ntmps83 Tryz.results83 (by simp)]
  rcases hop with h | h | h | h | h | h | h | h
  · have q := base 1 h
    have hb0 := absb (by rw [h]; rfl)
    simp (maxSteps := 1000000) only [go_sem, acondK_bool, acB_merge, Nat.reduceLT, Nat.reduceLeDiff, Nat.reduceEqDiff, Nat.reduceAdd, Nat.reduceSub, Nat.reduceMul, Nat.reduceBEq, Nat.reduceBNe, Nat.reduceBneDiff, Nat.reduceBeqDiff, Int.reduceToNat, Int.reduceLE, Int.reduceLT, Int.reduceEq, Int.reduceNe, Int.reduceNeg, Int.reduceAdd, Int.reduceSub, ↓reduceIte, reduceCtorEq, r1, r2, wab, minC, kab, q]
    refine fin ⟨1, cut (tE a), 0, 0⟩ ?_
    simp [tS, ownK, K.cut, q, hb0, c1, c0]
  · have q := base 2 h
    have hb0 := absb (by rw [h]; rfl)
    simp (maxSteps := 1000000) only [go_sem, acondK_bool, acB_merge, Nat.reduceLT, Nat.reduceLeDiff, Nat.reduceEqDiff, Nat.reduceAdd, Nat.reduceSub, Nat.reduceMul, Nat.reduceBEq, Nat.reduceBNe, Nat.reduceBneDiff, Nat.reduceBeqDiff, Int.reduceToNat, Int.reduceLE, Int.reduceLT, Int.reduceEq, Int.reduceNe, Int.reduceNeg, Int.reduceAdd, Int.reduceSub, ↓reduceIte, reduceCtorEq, r1, r2, wab, minC, kab, q]
    refine fin ⟨1, cut (tE a), 0, 0⟩ ?_
    simp [tS, ownK, K.cut, q, hb0, c1, c0]
  · have q := base 3 h
    simp (maxSteps := 1000000) only [go_sem, acondK_bool, acB_merge, Nat.reduceLT, Nat.reduceLeDiff, Nat.reduceEqDiff, Nat.reduceAdd, Nat.reduceSub, Nat.reduceMul, Nat.reduceBEq, Nat.reduceBNe, Nat.reduceBneDiff, Nat.reduceBeqDiff, Int.reduceToNat, Int.reduceLE, Int.reduceLT, Int.reduceEq, Int.reduceNe, Int.reduceNeg, Int.reduceAdd, Int.reduceSub, ↓reduceIte, reduceCtorEq, r1, r2, wab, minC, kab, k_drawn_t, q]
    refine Eq.trans (ctE_ok (by repeat (first | exact MLe.nil | apply MLe.qq | apply MLe.q | apply MLe.o | apply MLe.b | apply MLe.l)) (by kernel_rfl)) ?_
    simp (maxSteps := 1000000) only [go_sem, acondK_bool, acB_merge, Nat.reduceLT, Nat.reduceLeDiff, Nat.reduceEqDiff, Nat.reduceAdd, Nat.reduceSub, Nat.reduceMul, Nat.reduceBEq, Nat.reduceBNe, Nat.reduceBneDiff, Nat.reduceBeqDiff, Int.reduceToNat, Int.reduceLE, Int.reduceLT, Int.reduceEq, Int.reduceNe, Int.reduceNeg, Int.reduceAdd, Int.reduceSub, ↓reduceIte, reduceCtorEq, r1, r2, wab, minC, kab, k_drawn_t, q]
    refine fin ⟨1, cut (tE a + tE b), 1, 0⟩ ?_
    simp [tS, ownK, K.cut, q, c1, c0]
  · have q := base 4 h
    have hb0 := absb (by rw [h]; rfl)
    simp (maxSteps := 1000000) only [go_sem, acondK_bool, acB_merge, Nat.reduceLT, Nat.reduceLeDiff, Nat.reduceEqDiff, Nat.reduceAdd, Nat.reduceSub, Nat.reduceMul, Nat.reduceBEq, Nat.reduceBNe, Nat.reduceBneDiff, Nat.reduceBeqDiff, Int.reduceToNat, Int.reduceLE, Int.reduceLT, Int.reduceEq, Int.reduceNe, Int.reduceNeg, Int.reduceAdd, Int.reduceSub, ↓reduceIte, reduceCtorEq, r1, r2, wab, minC, kab, q]
    refine fin ⟨1, cut (tE a), 1, 0⟩ ?_
    simp [tS, ownK, K.cut, q, hb0, c1, c0]
  · have q := base 5 h
    have hb0 := absb (by rw [h]; rfl)
    have l1 := largerP (tSs body).cut (tSs els).cut A
    rw [K.larger_cut n1 n2] at l1
    have hk : (⟨1, cut (tE a), 0, 0⟩ : K) = (ownK op a b).cut := by simp [ownK, K.cut, q, hb0, c1, c0]
    have p1 := plusP (ownK op a b).cut ((tSs body).lar (tSs els)).cut (ownK_nn op a b).cut (n1.lar n2).cut A
    rw [K.plus_cut (ownK_nn op a b) (n1.lar n2), ← hk] at p1
    simp (maxSteps := 1000000) only [go_sem, acondK_bool, acB_merge, Nat.reduceLT, Nat.reduceLeDiff, Nat.reduceEqDiff, Nat.reduceAdd, Nat.reduceSub, Nat.reduceMul, Nat.reduceBEq, Nat.reduceBNe, Nat.reduceBneDiff, Nat.reduceBeqDiff, Int.reduceToNat, Int.reduceLE, Int.reduceLT, Int.reduceEq, Int.reduceNe, Int.reduceNeg, Int.reduceAdd, Int.reduceSub, ↓reduceIte, reduceCtorEq, r1, r2, wab, minC, kab, k_drawn_t, q, b1, b2, l1, p1]
    refine Eq.trans (ctE_ok (by repeat (first | exact MLe.nil | apply MLe.qq | apply MLe.q | apply MLe.o | apply MLe.b | apply MLe.l)) (by kernel_rfl)) ?_
    simp (maxSteps := 1000000) only [go_sem, acondK_bool, acB_merge, Nat.reduceLT, Nat.reduceLeDiff, Nat.reduceEqDiff, Nat.reduceAdd, Nat.reduceSub, Nat.reduceMul, Nat.reduceBEq, Nat.reduceBNe, Nat.reduceBneDiff, Nat.reduceBeqDiff, Int.reduceToNat, Int.reduceLE, Int.reduceLT, Int.reduceEq, Int.reduceNe, Int.reduceNeg, Int.reduceAdd, Int.reduceSub, ↓reduceIte, reduceCtorEq, q]
    refine fin _ ?_
    simp [tS, q]
  · have q := base 6 h
    have hx6 := hmax h
    have t1 := timesP (tSs body).cut max n1.cut ⟨by omega, by omega⟩ A
    rw [K.times_cut n1 (by omega)] at t1
    have nm : (ownK op a b).Nn := ownK_nn op a b
    have ok2 : (⟨1 + max, cut (tE a + tE b), 0, 0⟩ : K).Ok := ⟨by constructor <;> simp <;> omega, cut_ok (by omega), ⟨Int.le_refl 0, (by decide : (0 : Int) ≤ 100000)⟩, ⟨Int.le_refl 0, (by decide : (0 : Int) ≤ 100000)⟩⟩
    have p1 := plusP ⟨1 + max, cut (tE a + tE b), 0, 0⟩ ((tSs body).mul max).cut ok2 (n1.mul (by omega)).cut A
    have wm : IntKind.i64.wrap (1 + max) = 1 + max := by rw [wrap_in] <;> omega
    simp (maxSteps := 1000000) only [go_sem, acondK_bool, acB_merge, Nat.reduceLT, Nat.reduceLeDiff, Nat.reduceEqDiff, Nat.reduceAdd, Nat.reduceSub, Nat.reduceMul, Nat.reduceBEq, Nat.reduceBNe, Nat.reduceBneDiff, Nat.reduceBeqDiff, Int.reduceToNat, Int.reduceLE, Int.reduceLT, Int.reduceEq, Int.reduceNe, Int.reduceNeg, Int.reduceAdd, Int.reduceSub, ↓reduceIte, reduceCtorEq, r1, r2, wab, minC, kab, k_drawn_t, q, b1, b2, t1, p1, wm]
    refine Eq.trans (ctE_ok (by repeat (first | exact MLe.nil | apply MLe.qq | apply MLe.q | apply MLe.o | apply MLe.b | apply MLe.l)) (by kernel_rfl)) ?_
    simp (maxSteps := 1000000) only [go_sem, acondK_bool, acB_merge, Nat.reduceLT, Nat.reduceLeDiff, Nat.reduceEqDiff, Nat.reduceAdd, Nat.reduceSub, Nat.reduceMul, Nat.reduceBEq, Nat.reduceBNe, Nat.reduceBneDiff, Nat.reduceBeqDiff, Int.reduceToNat, Int.reduceLE, Int.reduceLT, Int.reduceEq, Int.reduceNe, Int.reduceNeg, Int.reduceAdd, Int.reduceSub, ↓reduceIte, reduceCtorEq, r1, r2, wab, minC, kab, k_drawn_t, q, b1, b2, t1, p1, wm]
    refine Eq.trans (ctE_ok (by repeat (first | exact MLe.nil | apply MLe.qq | apply MLe.q | apply MLe.o | apply MLe.b | apply MLe.l)) (by kernel_rfl)) ?_
    simp (maxSteps := 1000000) only [go_sem, acondK_bool, acB_merge, Nat.reduceLT, Nat.reduceLeDiff, Nat.reduceEqDiff, Nat.reduceAdd, Nat.reduceSub, Nat.reduceMul, Nat.reduceBEq, Nat.reduceBNe, Nat.reduceBneDiff, Nat.reduceBeqDiff, Int.reduceToNat, Int.reduceLE, Int.reduceLT, Int.reduceEq, Int.reduceNe, Int.reduceNeg, Int.reduceAdd, Int.reduceSub, ↓reduceIte, reduceCtorEq, q]
    refine fin _ ?_
    have m1 := n1.mul (n := max) (by omega)
    simp only [tS, q, K.plus, K.cut, K.add, ownK]
    simp only [Int.reduceEq, decide_true, decide_false, if_true, Bool.false_eq_true, if_false, Bool.or_self]
    have e1 := m1.s
    have e2 := m1.g
    have e3 := m1.p
    have e4 := m1.e
    rw [cut_cut e1 (by omega), cut_cut2 e2 (by omega), cut_cut e3 (by decide), cut_cut e4 (by decide)]
    simp [Int.add_assoc]
  · have q := base 7 h
    have hb0 := absb (by rw [h]; rfl)
    simp (maxSteps := 1000000) only [go_sem, acondK_bool, acB_merge, Nat.reduceLT, Nat.reduceLeDiff, Nat.reduceEqDiff, Nat.reduceAdd, Nat.reduceSub, Nat.reduceMul, Nat.reduceBEq, Nat.reduceBNe, Nat.reduceBneDiff, Nat.reduceBeqDiff, Int.reduceToNat, Int.reduceLE, Int.reduceLT, Int.reduceEq, Int.reduceNe, Int.reduceNeg, Int.reduceAdd, Int.reduceSub, ↓reduceIte, reduceCtorEq, r1, r2, wab, minC, kab, q]
    refine fin ⟨1, cut (tE a), 0, 1⟩ ?_
    simp [tS, ownK, K.cut, q, hb0, c1, c0]
  · have q := base 8 h
    have hb0 := absb (by rw [h]; rfl)
    have ha0 := absa (by rw [h]; rfl)
    simp (maxSteps := 1000000) only [go_sem, acondK_bool, acB_merge, Nat.reduceLT, Nat.reduceLeDiff, Nat.reduceEqDiff, Nat.reduceAdd, Nat.reduceSub, Nat.reduceMul, Nat.reduceBEq, Nat.reduceBNe, Nat.reduceBneDiff, Nat.reduceBeqDiff, Int.reduceToNat, Int.reduceLE, Int.reduceLT, Int.reduceEq, Int.reduceNe, Int.reduceNeg, Int.reduceAdd, Int.reduceSub, ↓reduceIte, reduceCtorEq, r1, r2, wab, minC, kab, q]
    refine fin ⟨1, 0, 0, 0⟩ ?_
    simp [tS, ownK, K.cut, q, hb0, ha0, c1, c0]
theorem statement_in : ∀ x : Stm, x.Ok → ∀ d, (∀ y k, Vis.s y k ∈ visS x d → stmtS y k = 0) → CostStm x := by
  intro x
  induction x using Stm.ind with
  | h op name max a b body els ihb ihe =>
    intro hok d hv
    obtain ⟨f1, f2⟩ := stmFit2 hok
    have hvb : ∀ y k, Vis.s y k ∈ visSs body (IntKind.i64.wrap (d + 1)) → stmtS y k = 0 := fun y k hy => hv y k (vis_body _ hy)
    have hve : ∀ y k, Vis.s y k ∈ visSs els (IntKind.i64.wrap (d + 1)) → stmtS y k = 0 := fun y k hy => hv y k (vis_els _ hy)
    exact statementC _ hok d hv (blockC body f1 _ hvb fun y hy => ihb y hy (Stm.Ok.bodyOk hok y hy) _ fun z k hz => hvb z k (visSs_mem hy _ _ hz)) (blockC els f2 _ hve fun y hy => ihe y hy (Stm.Ok.elsOk hok y hy) _ fun z k hz => hve z k (visSs_mem hy _ _ hz))
theorem bodyC (p : Pr) (hp : p.Ok) (V : Vld p) : CostBlk p.body := blockC p.body hp.bfit 1 V.stm fun x hx => statement_in x (hp.body x hx) 1 fun y k hy => V.stm y k (visSs_mem hx _ _ hy)
end Go.Proofs.YtjmghomnbmbjnaaGreat
