/- Both checks find the same error: every statement; the law. -/
import Derived.Test.YtpbdjgdmhfibmaaGreatDoorSeatH
import Derived.Test.YtpbdjgdmhfibmaaGreatDoorSeatA
import Derived.Test.YtpbdjgdmhfibmaaGreatDoorSeatG
import Derived.Test.YtpbdjgdmhfibmaaGreatDoorSeatD
import Derived.Test.YtpbdjgdmhfibmaaGreatDoorGenD
import Derived.Test.YtpbdjgdmhfibmaaGreatDoorSeatE
set_option linter.all false
namespace Go.Proofs.YtpbdjgdmhfibmaaGreatDoor
open Go.Abs
attribute [local congr] ite_congr
set_option maxRecDepth 100000
theorem opsE_vis : ∀ (e : E) (r : Bool), (opsE e).length = (visE e r).length
 | .mk op n s args, r => by
   have := opsEs_vis args
   simp only [opsE, visE, List.length_cons, this]
where opsEs_vis : ∀ (l : List E), (opsEs l).length = (visEs l).length
 | [] => rfl
 | x :: l => by
   simp only [opsEs, visEs, List.length_append, opsE_vis x false, opsEs_vis l]
theorem opsEs_le (n : Nat) : ∀ (l : List E), (∀ e ∈ l, (opsE e).length ≤ n) → (opsEs l).length ≤ n * l.length
 | [], _ => by simp [opsEs]
 | x :: l, h => by
   have h1 := h x (List.mem_cons_self ..)
   have h2 := opsEs_le n l (fun e he => h e (List.mem_cons_of_mem _ he))
   simp only [opsEs, List.length_append, List.length_cons, Nat.mul_add]
   omega
theorem few_ops (p : Pr) (h : valS p = 0) : (opsEs (exprsS p)).length ≤ 160400 := by
 have V := (valS_zero p).1 h
 have h1 := opsEs_le 400 (exprsS p) fun e he => by rw [opsE_vis e true]; exact (V.roots e he).2
 have h2 := exprsS_len p
 have := Nat.mul_le_mul_left 400 h2
 omega
theorem checkOfG (p : Pr) (hp : p.Ok) (A : AHeap) : acl C 17 [Pr.av p] A = some (.d (.int .i64 (chkS p)), A) := by
 by_cases h : valS p = 0
 ·exact checkOf p hp (by have := ((prmS_zero3 _).1 ((valS_zero p).1 h).prm).1.2; omega) A
 ·have v1 := validate p hp
  have h1 : decide (valS p = 0) = false := by simpa using h
  have f0 : ∀ n, afinR C 34 A A (some (.tuple [.nilM, .d (.int .i64 n)])) = some (.tuple [.nilM, .d (.int .i64 n)], A) :=
   fun n => afinR_still (c := C) (f := 34) (v := .tuple [.nilM, .d (.int .i64 n)]) rfl rfl
  have h2 : preErr p = valS p := by unfold preErr; rw [if_neg (by rw [h1]; decide)]
  have h3 : decide (preErr p = 0) = false := by rw [h2]; exact h1
  have c1 : acl C 34 [Pr.av p] A = some (.tuple [.nilM, .d (.int .i64 (preErr p))], A) := by
   rw [kC Tryz.func34 rfl Tryz.ntmps34 Tryz.results34]
   rw [h2]
   simp only [go_sem, acondK_bool, v1, h1, f0]
  rw [kC Tryz.func17 rfl Tryz.ntmps17 Tryz.results17]
  unfold chkS
  rw [h3, if_neg (by decide)]
  simp only [go_sem, acondK_bool, c1]
def detS (p : Pr) : Int := if decide (chkS p = 0) = true then (if (fstP p).2.2 = true then 12 else 0) else chkS p
structure K where
 s : Int
 g : Int
 p : Int
 e : Int
abbrev K.av (k : K) : AV := .agg [.d (.int .i64 k.s), .d (.int .i64 k.g), .d (.int .i64 k.p), .d (.int .i64 k.e)]
def cut (n : Int) : Int := if 16385 < n then 16385 else n
def mx (a b : Int) : Int := if b > a then b else a
def K.plus (a b : K) : K := ⟨cut (a.s + b.s), cut (a.g + b.g), cut (a.p + b.p), cut (a.e + b.e)⟩
def K.times (a : K) (n : Int) : K := ⟨cut (a.s * n), cut (a.g * n), cut (a.p * n), cut (a.e * n)⟩
def K.larger (a b : K) : K := ⟨mx a.s b.s, mx a.g b.g, mx a.p b.p, mx a.e b.e⟩
structure K.Ok (a : K) : Prop where
 s : 0 ≤ a.s ∧ a.s ≤ 100000
 g : 0 ≤ a.g ∧ a.g ≤ 100000
 p : 0 ≤ a.p ∧ a.p ≤ 100000
 e : 0 ≤ a.e ∧ a.e ≤ 100000
theorem cut_ok {n : Int} (h : 0 ≤ n) : 0 ≤ cut n ∧ cut n ≤ 100000 := by unfold cut; split <;> omega
theorem wadd {a b : Int} (ha : 0 ≤ a ∧ a ≤ 100000) (hb : 0 ≤ b ∧ b ≤ 100000) : IntKind.i64.wrap (a + b) = a + b := by rw [wrap_in] <;> omega
theorem wmul {a n : Int} (ha : 0 ≤ a ∧ a ≤ 100000) (hn : 0 ≤ n ∧ n ≤ 1000) : IntKind.i64.wrap (a * n) = a * n := by
 have h1 := Int.mul_nonneg ha.1 hn.1
 have h2 : a * n ≤ 100000 * 1000 := Int.mul_le_mul ha.2 hn.2 hn.1 (by decide)
 rw [wrap_in] <;> omega
def aplK (A : AHeap) (n : Nat) (p : Option (Nat × Nat)) : Option (Slot × AHeap) := match p with
 | some (s, o) => some (.place s (o + n), A)
 | none => none
@[go_sem] theorem aplK_some {A : AHeap} {n s o : Nat} : aplK A n (some (s, o)) = some (.place s (o + n), A) := by rfl
theorem ixK (c : ACtx) (hc : c.P = Tryz.prog) {env : AEnv} {A : AHeap} {x : Operand} {k : IntKind} (n : Nat) (hn : n < 4) : aindexK c env A 147 x (some (.d (.int k (n : Int)))) = aplK A n (aplace env x) := by
 rw [aindexK_array (h := by rw [hc]; exact arr_147)]
 unfold aindexP aplK
 cases aplace env x with
 | none => rfl
 | some p =>
   simp only
   rw [if_pos (by omega)]
   simp
section
variable {env : AEnv} {A : AHeap} {x : Operand} {k : IntKind}
@[go_sem] theorem ix0 : aindexK C env A 147 x (some (.d (.int k 0))) = aplK A 0 (aplace env x) := ixK C rfl 0 (by decide)
@[go_sem] theorem ix1 : aindexK C env A 147 x (some (.d (.int k 1))) = aplK A 1 (aplace env x) := ixK C rfl 1 (by decide)
@[go_sem] theorem ix2 : aindexK C env A 147 x (some (.d (.int k 2))) = aplK A 2 (aplace env x) := ixK C rfl 2 (by decide)
@[go_sem] theorem ix3 : aindexK C env A 147 x (some (.d (.int k 3))) = aplK A 3 (aplace env x) := ixK C rfl 3 (by decide)
@[go_sem] theorem iy0 : aindexK C.noesc env A 147 x (some (.d (.int k 0))) = aplK A 0 (aplace env x) := ixK C.noesc rfl 0 (by decide)
@[go_sem] theorem iy1 : aindexK C.noesc env A 147 x (some (.d (.int k 1))) = aplK A 1 (aplace env x) := ixK C.noesc rfl 1 (by decide)
@[go_sem] theorem iy2 : aindexK C.noesc env A 147 x (some (.d (.int k 2))) = aplK A 2 (aplace env x) := ixK C.noesc rfl 2 (by decide)
@[go_sem] theorem iy3 : aindexK C.noesc env A 147 x (some (.d (.int k 3))) = aplK A 3 (aplace env x) := ixK C.noesc rfl 3 (by decide)
end
@[go_sem] theorem wl1 : IntKind.i64.wrap 1 = 1 := by decide
@[go_sem] theorem wl2 : IntKind.i64.wrap 2 = 2 := by decide
@[go_sem] theorem wl3 : IntKind.i64.wrap 3 = 3 := by decide
@[go_sem] theorem wl4 : IntKind.i64.wrap 4 = 4 := by decide
theorem plusP (a b : K) (ha : a.Ok) (hb : b.Ok) (A : AHeap) : acl C 118 [a.av, b.av] A = some ((a.plus b).av, A) := by
 have w1 := wadd ha.s hb.s
 have w2 := wadd ha.g hb.g
 have w3 := wadd ha.p hb.p
 have w4 := wadd ha.e hb.e
 have q : ∀ n, (if 16385 < n then (16385 : Int) else n) = cut n := fun _ => rfl
 rw [kC Tryz.func118 rfl Tryz.ntmps118 Tryz.results118]
 simp only [go_sem, acondK_bool, k_drawn_t, w1, w2, w3, w4, q]
 iterate 4
  rw [unroll]
  simp only [go_sem, acondK_bool, k_drawn_t, w1, w2, w3, w4, q]
  refine Eq.trans ctB ?_
  simp only [go_sem, acondK_bool, k_drawn_t, w1, w2, w3, w4, q]
 rw [unroll]
 simp only [go_sem, acondK_bool, k_drawn_t, w1, w2, w3, w4, q]
 rfl
theorem timesP (a : K) (n : Int) (ha : a.Ok) (hn : 0 ≤ n ∧ n ≤ 1000) (A : AHeap) : acl C 164 [a.av, .d (.int .i64 n)] A = some ((a.times n).av, A) := by
 have w1 := wmul ha.s hn
 have w2 := wmul ha.g hn
 have w3 := wmul ha.p hn
 have w4 := wmul ha.e hn
 have q : ∀ n, (if 16385 < n then (16385 : Int) else n) = cut n := fun _ => rfl
 rw [kC Tryz.func164 rfl Tryz.ntmps164 Tryz.results164]
 simp only [go_sem, acondK_bool, k_drawn_t, w1, w2, w3, w4, q]
 iterate 4
  rw [unroll]
  simp only [go_sem, acondK_bool, k_drawn_t, w1, w2, w3, w4, q]
 rw [unroll]
 simp only [go_sem, acondK_bool, k_drawn_t, w1, w2, w3, w4, q]
 rfl
theorem largerP (a b : K) (A : AHeap) : acl C 163 [a.av, b.av] A = some ((a.larger b).av, A) := by
 have q : ∀ a b : Int, (if b > a then b else a) = mx a b := fun _ _ => rfl
 rw [kC Tryz.func163 rfl Tryz.ntmps163 Tryz.results163]
 simp only [go_sem, acondK_bool, k_drawn_t, q]
 iterate 4
  rw [unroll]
  simp only [go_sem, acondK_bool, k_drawn_t, q]
  refine Eq.trans ctB ?_
  simp only [go_sem, acondK_bool, k_drawn_t, q]
 rw [unroll]
 simp only [go_sem, acondK_bool, k_drawn_t, q]
 rfl
mutual
def tE : E → Int
 | .mk op _ _ args => (if rdS op = true then 1 else 0) + tEs args
def tEs : List E → Int
 | [] => 0
 | x :: l => tE x + tEs l
end
mutual
theorem tE_nn : ∀ e, 0 ≤ tE e
 | .mk op n s args => by
   have := tEs_nn args
   simp only [tE]
   split <;> omega
theorem tEs_nn : ∀ l, 0 ≤ tEs l
 | [] => by simp [tEs]
 | x :: l => by
   have := tE_nn x
   have := tEs_nn l
   simp only [tEs]
   omega
end
theorem cut_cut {a b : Int} (hb : 0 ≤ b) (ha : 0 ≤ a) : cut (a + cut b) = cut (a + b) := by unfold cut; repeat' split <;> omega
theorem cut_cut2 {a b : Int} (hb : 0 ≤ b) (ha : 0 ≤ a) : cut (cut a + cut b) = cut (a + b) := by unfold cut; repeat' split <;> omega
theorem cut_nn {a : Int} (h : 0 ≤ a) : 0 ≤ cut a := (cut_ok h).1
theorem cut_mx {a b : Int} (ha : 0 ≤ a) (hb : 0 ≤ b) : mx (cut a) (cut b) = cut (mx a b) := by unfold cut mx; repeat' split <;> omega
theorem cut_mul {a n : Int} (ha : 0 ≤ a) (hn : 0 ≤ n) : cut (cut a * n) = cut (a * n) := by
 by_cases h : 16385 < a
 ·have h1 : cut a = 16385 := by unfold cut; rw [if_pos h]
  rw [h1]
  rcases Int.lt_or_le n 1 with h2 | h2
  ·obtain rfl : n = 0 := by omega
   simp
  ·have h3 : 16385 * n ≤ a * n := Int.mul_le_mul_of_nonneg_right (by omega) hn
   have h4 : 16385 * 1 ≤ 16385 * n := Int.mul_le_mul_of_nonneg_left h2 (by decide)
   have h5 : a * 1 ≤ a * n := Int.mul_le_mul_of_nonneg_left h2 ha
   unfold cut
   rw [if_pos (show 16385 < a * n by omega)]
   split <;> omega
 ·have h1 : cut a = a := by unfold cut; rw [if_neg h]
  rw [h1]
def cEs : List E → Int
 | [] => 0
 | x :: l => cut (tE x) + cEs l
theorem cEs_snoc : ∀ (l : List E) (x : E), cEs (l ++ [x]) = cEs l + cut (tE x)
 | [], x => by simp [cEs]
 | y :: l, x => by simp only [List.cons_append, cEs, cEs_snoc l x]; omega
theorem cEs_bound : ∀ (l : List E), 0 ≤ cEs l ∧ cEs l ≤ 16385 * l.length
 | [] => by simp [cEs]
 | x :: l => by
   have h1 := cEs_bound l
   have h2 : 0 ≤ cut (tE x) ∧ cut (tE x) ≤ 16385 := by
    have := tE_nn x
    unfold cut; split <;> omega
   simp only [cEs, List.length_cons]
   push_cast
   omega
theorem cut_cEs : ∀ (l : List E) (o : Int), 0 ≤ o → cut (o + cEs l) = cut (o + tEs l)
 | [], o, _ => rfl
 | x :: l, o, ho => by
   have h1 := tE_nn x
   have h2 := tEs_nn l
   have h3 := (cEs_bound l).1
   simp only [cEs, tEs]
   rw [show o + (cut (tE x) + cEs l) = (o + cut (tE x)) + cEs l by omega, cut_cEs l _ (by have := cut_nn h1; omega),
    show o + cut (tE x) + tEs l = (o + tEs l) + cut (tE x) by omega, cut_cut h1 (by omega)]
   congr 1
   omega
theorem cut_eq (n : Int) : (if 16385 < n then (16385 : Int) else n) = cut n := rfl
theorem readsC : ∀ e, E.Ok e → ∀ (A : AHeap), acl C 162 [E.av e] A = some (.d (.int .i64 (cut (tE e))), A) := by
 intro e
 induction e using E.ind with
 | h op n s args ih =>
   intro hok A
   have hlen := hok.fit
   obtain ⟨o, ho⟩ : ∃ o : Int, o = if rdS op = true then 1 else 0 := ⟨_, rfl⟩
   have ho2 : 0 ≤ o ∧ o ≤ 1 := by rw [ho]; split <;> omega
   have key : ∀ (r : Option (AV × AHeap)), r = some (.d (.int .i64 (cut (o + cEs args))), A) → r = some (.d (.int .i64 (cut (tE (.mk op n s args)))), A) := by
    intro r hr
    rw [hr, cut_cEs args o ho2.1, tE, ← ho]
   apply key
   have loopq : ∀ (F : AF) (ks : List KF) (body : Code), F = ⟨C, 162, 26, [.tmp 2], A⟩ → True := fun _ _ _ _ => trivial
   rw [kC Tryz.func162 rfl Tryz.ntmps162 Tryz.results162]
   unfold rdS at ho
   cases h1 : decide (op = 22) <;> cases h2 : decide (op = 23) <;> cases h3 : decide (op = 24) <;> rw [h1, h2, h3] at ho <;> simp only [Bool.or_false, Bool.or_true, Bool.or_self, Bool.false_eq_true, if_true, if_false] at ho <;> subst ho <;> simp only [go_sem, acondK_bool, h1, h2, h3]
   all_goals
    refine loop_any (fun pre => [(3, .v (.d (.int .i64 (_ + cEs pre)))), (15, .v (.d (.int .i64 (pre.length : Nat)))), (13, .v (.d (.slice (args.map E.row)))), (14, .v (.d (.int .i64 (args.length : Nat))))])
     (fun _ => A) (fun _ _ => some (.d (.int .i64 (cut (_ + cEs args))), A)) args (by simp only [cEs, Int.add_zero]; rfl) rfl rfl ?_
   all_goals
    intro pre suf hl ih2
    have hb : pre.length < 9223372036854775807 := by rw [hl] at hlen; simp at hlen; omega
    cases suf with
    | nil =>
      rw [List.append_nil] at hl
      subst hl
      have e4 : decide ((args.length : Int) < (args.length : Int)) = false := by simp
      simp only [go_sem, acondK_bool, e4, cut_eq]
    | cons x suf =>
      have hx : x ∈ args := by rw [hl]; simp
      have e1 := ih x hx (hok.arg x hx) A
      have e2 := ih2 x suf rfl
      rw [List.length_append, List.length_cons, List.length_nil, cEs_snoc, ← Int.add_assoc] at e2
      have e3 : (args.map E.row)[pre.length]? = some (E.row x) := by rw [hl]; exact map_mid
      have e4 : decide ((pre.length : Int) < (args.length : Int)) = true := by rw [hl]; simp; omega
      rw [E.row_eq] at e3
      have c1 := cEs_bound pre
      have c2 : 0 ≤ cut (tE x) ∧ cut (tE x) ≤ 16385 := by
       have := tE_nn x
       unfold cut; split <;> omega
      have hpl : pre.length ≤ 4194303 := by rw [hl] at hlen; simp at hlen; omega
      have w0 : IntKind.i64.wrap (0 + cEs pre + cut (tE x)) = 0 + cEs pre + cut (tE x) := by rw [wrap_in] <;> omega
      have w1 : IntKind.i64.wrap (1 + cEs pre + cut (tE x)) = 1 + cEs pre + cut (tE x) := by rw [wrap_in] <;> omega
      simp only [go_sem, acondK_bool, e3, e4, e1, e2, w0, w1, wrap_nat hb]
def K.add (a b : K) : K := ⟨a.s + b.s, a.g + b.g, a.p + b.p, a.e + b.e⟩
def K.mul (a : K) (n : Int) : K := ⟨a.s * n, a.g * n, a.p * n, a.e * n⟩
def K.lar (a b : K) : K := ⟨mx a.s b.s, mx a.g b.g, mx a.p b.p, mx a.e b.e⟩
def K.cut (a : K) : K := ⟨Go.Proofs.YtpbdjgdmhfibmaaGreatDoor.cut a.s, Go.Proofs.YtpbdjgdmhfibmaaGreatDoor.cut a.g, Go.Proofs.YtpbdjgdmhfibmaaGreatDoor.cut a.p, Go.Proofs.YtpbdjgdmhfibmaaGreatDoor.cut a.e⟩
structure K.Nn (a : K) : Prop where
 s : 0 ≤ a.s
 g : 0 ≤ a.g
 p : 0 ≤ a.p
 e : 0 ≤ a.e
theorem K.Nn.add {a b : K} (ha : a.Nn) (hb : b.Nn) : (a.add b).Nn := ⟨Int.add_nonneg ha.s hb.s, Int.add_nonneg ha.g hb.g, Int.add_nonneg ha.p hb.p, Int.add_nonneg ha.e hb.e⟩
theorem mx_nn {a b : Int} (ha : 0 ≤ a) (hb : 0 ≤ b) : 0 ≤ mx a b := by unfold mx; split <;> omega
theorem K.Nn.lar {a b : K} (ha : a.Nn) (hb : b.Nn) : (a.lar b).Nn := ⟨mx_nn ha.s hb.s, mx_nn ha.g hb.g, mx_nn ha.p hb.p, mx_nn ha.e hb.e⟩
theorem K.Nn.mul {a : K} (ha : a.Nn) {n : Int} (h : 0 ≤ n) : (a.mul n).Nn := ⟨Int.mul_nonneg ha.s h, Int.mul_nonneg ha.g h, Int.mul_nonneg ha.p h, Int.mul_nonneg ha.e h⟩
theorem K.Nn.cut {a : K} (h : a.Nn) : a.cut.Ok := ⟨cut_ok h.s, cut_ok h.g, cut_ok h.p, cut_ok h.e⟩
theorem K.plus_cut {a b : K} (ha : a.Nn) (hb : b.Nn) : a.cut.plus b.cut = (a.add b).cut := by
 simp only [K.plus, K.cut, K.add, cut_cut2 hb.s ha.s, cut_cut2 hb.g ha.g, cut_cut2 hb.p ha.p, cut_cut2 hb.e ha.e]
theorem K.larger_cut {a b : K} (ha : a.Nn) (hb : b.Nn) : a.cut.larger b.cut = (a.lar b).cut := by
 simp only [K.larger, K.cut, K.lar, cut_mx ha.s hb.s, cut_mx ha.g hb.g, cut_mx ha.p hb.p, cut_mx ha.e hb.e]
theorem K.times_cut {a : K} (ha : a.Nn) {n : Int} (hn : 0 ≤ n) : a.cut.times n = (a.mul n).cut := by
 simp only [K.times, K.cut, K.mul, cut_mul ha.s hn, cut_mul ha.g hn, cut_mul ha.p hn, cut_mul ha.e hn]
def ownK (op : Int) (a b : E) : K := ⟨1, tE a + tE b, if (decide (op = 3) || decide (op = 4)) = true then 1 else 0, if decide (op = 7) = true then 1 else 0⟩
theorem ownK_nn (op : Int) (a b : E) : (ownK op a b).Nn := by
 have := tE_nn a
 have := tE_nn b
 refine ⟨by unfold ownK; simp, by unfold ownK; simp; omega, ?_, ?_⟩
 ·unfold ownK; simp only; split <;> omega
 ·unfold ownK; simp only; split <;> omega
mutual
def tS : Stm → K
 | .mk op name max a b body els => if decide (op = 5) = true then (ownK op a b).add ((tSs body).lar (tSs els)) else if decide (op = 6) = true then (ownK op a b).add (K.add ⟨max, 0, 0, 0⟩ ((tSs body).mul max)) else ownK op a b
def tSs : List Stm → K
 | [] => ⟨0, 0, 0, 0⟩
 | x :: l => (tS x).add (tSs l)
end
theorem maxOf {x : Stm} {d : Int} (h : stmtS x d = 0) : x.op = 6 → 1 ≤ x.max ∧ x.max ≤ 16 := by
 intro h6
 unfold stmtS at h
 split at h
 ·cases h
 ·rename_i h1
  simp only [Bool.or_eq_true, Bool.not_eq_true', not_or, Bool.not_eq_false, Bool.and_eq_true] at h1
  have h2 := h1.2.2
  unfold maxOk at h2
  rw [if_pos (by simpa using h6)] at h2
  simpa using h2
mutual
theorem tS_nn : ∀ (x : Stm) (d : Int), (∀ y k, Vis.s y k ∈ visS x d → stmtS y k = 0) → (tS x).Nn
 | .mk op name max a b body els, d, h => by
   have h0 := h _ d (vis_self (.mk op name max a b body els) d)
   have o := ownK_nn op a b
   have n1 := tSs_nn body (IntKind.i64.wrap (d + 1)) fun y k hy => h y k (vis_body _ hy)
   have n2 := tSs_nn els (IntKind.i64.wrap (d + 1)) fun y k hy => h y k (vis_els _ hy)
   unfold tS
   split
   ·exact o.add (n1.lar n2)
   ·split
    ·rename_i h6
     have := (maxOf h0 (by simpa using h6)).1
     change 1 ≤ max at this
     exact o.add (K.Nn.add ⟨by show 0 ≤ max; omega, Int.le_refl _, Int.le_refl _, Int.le_refl _⟩ (n1.mul (by omega)))
    ·exact o
theorem tSs_nn : ∀ (l : List Stm) (d : Int), (∀ y k, Vis.s y k ∈ visSs l d → stmtS y k = 0) → (tSs l).Nn
 | [], d, _ => ⟨by simp [tSs], by simp [tSs], by simp [tSs], by simp [tSs]⟩
 | x :: l, d, h => (tS_nn x d fun y k hy => h y k (by rw [visSs]; exact List.mem_append_left _ hy)).add (tSs_nn l d fun y k hy => h y k (by rw [visSs]; exact List.mem_append_right _ hy))
end
theorem absent_tE {e : E} (h : absE e = true) : tE e = 0 := by
 obtain ⟨op, n, s, args⟩ := e
 simp [absentS] at h
 obtain ⟨⟨⟨rfl, rfl⟩, rfl⟩, rfl⟩ := h
 rfl
theorem tSs_snoc : ∀ (l : List Stm) (x : Stm), tSs (l ++ [x]) = (tSs l).add (tS x)
 | [], x => by simp [tSs, K.add]
 | y :: l, x => by simp only [List.cons_append, tSs, tSs_snoc l x, K.add, Int.add_assoc]
def CostStm (x : Stm) : Prop := ∀ A, acl C 119 [Stm.av x] A = some ((tS x).cut.av, A)
def CostBlk (l : List Stm) : Prop := ∀ A, acl C 81 [.d (.slice (l.map Stm.row))] A = some ((tSs l).cut.av, A)
theorem blockC (l : List Stm) (hlen : l.length ≤ 4194303) (d : Int) (hv : ∀ y k, Vis.s y k ∈ visSs l d → stmtS y k = 0) (ih : ∀ x ∈ l, CostStm x) : CostBlk l := by
 intro A
 rw [kC Tryz.func81 rfl Tryz.ntmps81 Tryz.results81]
 simp only [go_sem, acondK_bool]
 refine loop_any (fun pre => [(8, .v (.d (.int .i64 (pre.length : Nat)))), (3, .box [.d (.int .i64 (tSs pre).cut.s), .d (.int .i64 (tSs pre).cut.g), .d (.int .i64 (tSs pre).cut.p), .d (.int .i64 (tSs pre).cut.e)]), (6, .v (.d (.slice (l.map Stm.row)))), (2, .box [.d (.int .i64 0), .d (.int .i64 0), .d (.int .i64 0), .d (.int .i64 0)]), (7, .v (.d (.int .i64 (l.length : Nat))))])
  (fun _ => A) (fun _ _ => some ((tSs l).cut.av, A)) l rfl rfl rfl ?_
 intro pre suf hl ih2
 have hb : pre.length < 9223372036854775807 := by rw [hl] at hlen; simp at hlen; omega
 cases suf with
 | nil =>
   rw [List.append_nil] at hl
   subst hl
   have e4 : decide ((l.length : Int) < (l.length : Int)) = false := by simp
   simp only [go_sem, acondK_bool, e4]
   done
 | cons x suf =>
   have hx : x ∈ l := by rw [hl]; simp
   have e1 := ih x hx A
   have e2 := ih2 x suf rfl
   rw [List.length_append, List.length_cons, List.length_nil, tSs_snoc] at e2
   have e3 : (l.map Stm.row)[pre.length]? = some (Stm.row x) := by rw [hl]; exact map_mid
   have e4 : decide ((pre.length : Int) < (l.length : Int)) = true := by rw [hl]; simp; omega
   have n1 : (tSs pre).Nn := tSs_nn pre d fun y k hy => hv y k (by rw [hl, visSs_append]; exact List.mem_append_left _ hy)
   have n2 : (tS x).Nn := tS_nn x d fun y k hy => hv y k (by rw [hl, visSs_append, visSs]; exact List.mem_append_right _ (List.mem_append_left _ hy))
   have p1 := plusP (tSs pre).cut (tS x).cut n1.cut n2.cut A
   rw [K.plus_cut n1 n2] at p1
   rw [Stm.row_eq] at e3
   simp only [go_sem, acondK_bool, e3, e4, e1, p1, k_drawn_t]
   refine Eq.trans ctB ?_
   simp only [go_sem, acondK_bool, e2, wrap_nat hb]
theorem minC (n : Int) : (if 16385 < n then (16385 : Int) else n) = cut n := rfl
theorem statementC (x : Stm) (hx : x.Ok) (d : Int) (hv : ∀ y k, Vis.s y k ∈ visS x d → stmtS y k = 0) (hb : CostBlk x.body) (he : CostBlk x.els) : CostStm x := by
 intro A
 have h0 := hv x d (vis_self x d)
 have hs := stmtS_zero h0
 have hm := maxOf h0
 obtain ⟨op, name, max, a, b, body, els⟩ := x
 have r1 := readsC a (Stm.Ok.a hx) A
 have r2 := readsC b (Stm.Ok.b hx) A
 have b1 := hb A
 have b2 := he A
 have n1 := tSs_nn body (IntKind.i64.wrap (d + 1)) fun y k hy => hv y k (vis_body _ hy)
 have n2 := tSs_nn els (IntKind.i64.wrap (d + 1)) fun y k hy => hv y k (vis_els _ hy)
 have ta := tE_nn a
 have tb := tE_nn b
 have ca : 0 ≤ cut (tE a) ∧ cut (tE a) ≤ 100000 := cut_ok ta
 have cb : 0 ≤ cut (tE b) ∧ cut (tE b) ≤ 100000 := cut_ok tb
 have wab := wadd ca cb
 have kab : cut (cut (tE a) + cut (tE b)) = cut (tE a + tE b) := cut_cut2 tb ta
 have absb : uB op = false → tE b = 0 := fun h => absent_tE (hs.nb h)
 have absa : uA op = false → tE a = 0 := fun h => absent_tE (hs.na h)
 have hop : op = 1 ∨ op = 2 ∨ op = 3 ∨ op = 4 ∨ op = 5 ∨ op = 6 ∨ op = 7 ∨ op = 8 := by
  have := hs.op
  change 1 ≤ op ∧ op ≤ 8 at this
  omega
 have c1 : cut 1 = 1 := rfl
 have c0 : cut 0 = 0 := rfl
 have hmax : op = 6 → 1 ≤ max ∧ max ≤ 16 := hm
 change CostBlk body at hb
 change CostBlk els at he
 have fin : ∀ k : K, k = (tS (.mk op name max a b body els)).cut → some ((k.av, A) : AV × AHeap) = some ((tS (.mk op name max a b body els)).cut.av, A) := fun k hk => by rw [hk]
 have base : ∀ c : Int, op = c → ∀ k, decide (op = k) = decide (c = k) := fun c h k => by rw [h]
 rw [kC Tryz.func119 rfl Tryz.ntmps119 Tryz.results119]
 rcases hop with h | h | h | h | h | h | h | h
 ·have q := base 1 h
  have hb0 := absb (by rw [h]; rfl)
  simp only [go_sem, acondK_bool, r1, r2, wab, minC, kab, q]
  refine fin ⟨1, cut (tE a), 0, 0⟩ ?_
  simp [tS, ownK, K.cut, q, hb0, c1, c0]
 ·have q := base 2 h
  have hb0 := absb (by rw [h]; rfl)
  simp only [go_sem, acondK_bool, r1, r2, wab, minC, kab, q]
  refine fin ⟨1, cut (tE a), 0, 0⟩ ?_
  simp [tS, ownK, K.cut, q, hb0, c1, c0]
 ·have q := base 3 h
  simp only [go_sem, acondK_bool, r1, r2, wab, minC, kab, k_drawn_t, q]
  refine Eq.trans ctB ?_
  simp only [go_sem, acondK_bool, r1, r2, wab, minC, kab, k_drawn_t, q]
  refine fin ⟨1, cut (tE a + tE b), 1, 0⟩ ?_
  simp [tS, ownK, K.cut, q, c1, c0]
 ·have q := base 4 h
  have hb0 := absb (by rw [h]; rfl)
  simp only [go_sem, acondK_bool, r1, r2, wab, minC, kab, q]
  refine fin ⟨1, cut (tE a), 1, 0⟩ ?_
  simp [tS, ownK, K.cut, q, hb0, c1, c0]
 ·have q := base 5 h
  have hb0 := absb (by rw [h]; rfl)
  have l1 := largerP (tSs body).cut (tSs els).cut A
  rw [K.larger_cut n1 n2] at l1
  have hk : (⟨1, cut (tE a), 0, 0⟩ : K) = (ownK op a b).cut := by simp [ownK, K.cut, q, hb0, c1, c0]
  have p1 := plusP (ownK op a b).cut ((tSs body).lar (tSs els)).cut (ownK_nn op a b).cut (n1.lar n2).cut A
  rw [K.plus_cut (ownK_nn op a b) (n1.lar n2), ← hk] at p1
  simp only [go_sem, acondK_bool, r1, r2, wab, minC, kab, k_drawn_t, q, b1, b2, l1, p1]
  refine Eq.trans ctB ?_
  simp only [go_sem, acondK_bool, q]
  refine fin _ ?_
  simp [tS, q]
 ·have q := base 6 h
  have hx6 := hmax h
  have t1 := timesP (tSs body).cut max n1.cut ⟨by omega, by omega⟩ A
  rw [K.times_cut n1 (by omega)] at t1
  have nm : (ownK op a b).Nn := ownK_nn op a b
  have ok2 : (⟨1 + max, cut (tE a + tE b), 0, 0⟩ : K).Ok := ⟨by constructor <;> simp <;> omega, cut_ok (by omega), ⟨Int.le_refl 0, (by decide : (0 : Int) ≤ 100000)⟩, ⟨Int.le_refl 0, (by decide : (0 : Int) ≤ 100000)⟩⟩
  have p1 := plusP ⟨1 + max, cut (tE a + tE b), 0, 0⟩ ((tSs body).mul max).cut ok2 (n1.mul (by omega)).cut A
  have wm : IntKind.i64.wrap (1 + max) = 1 + max := by rw [wrap_in] <;> omega
  simp only [go_sem, acondK_bool, r1, r2, wab, minC, kab, k_drawn_t, q, b1, b2, t1, p1, wm]
  refine Eq.trans ctB ?_
  simp only [go_sem, acondK_bool, r1, r2, wab, minC, kab, k_drawn_t, q, b1, b2, t1, p1, wm]
  refine Eq.trans ctB ?_
  simp only [go_sem, acondK_bool, q]
  refine fin _ ?_
  have m1 := n1.mul (n := max) (by omega)
  simp only [tS, q, K.plus, K.cut, K.add, ownK]
  simp only [Int.reduceEq, decide_true, decide_false, if_true, Bool.false_eq_true, if_false, Bool.or_self]
  have e1 := m1.s
  have e2 := m1.g
  have e3 := m1.p
  have e4 := m1.e
  rw [cut_cut e1 (by omega), cut_cut2 e2 (by omega), cut_cut e3 (by decide), cut_cut e4 (by decide)]
  simp [Int.add_assoc]
 ·have q := base 7 h
  have hb0 := absb (by rw [h]; rfl)
  simp only [go_sem, acondK_bool, r1, r2, wab, minC, kab, q]
  refine fin ⟨1, cut (tE a), 0, 1⟩ ?_
  simp [tS, ownK, K.cut, q, hb0, c1, c0]
 ·have q := base 8 h
  have hb0 := absb (by rw [h]; rfl)
  have ha0 := absa (by rw [h]; rfl)
  simp only [go_sem, acondK_bool, r1, r2, wab, minC, kab, q]
  refine fin ⟨1, 0, 0, 0⟩ ?_
  simp [tS, ownK, K.cut, q, hb0, ha0, c1, c0]
theorem statement_in : ∀ x : Stm, x.Ok → ∀ d, (∀ y k, Vis.s y k ∈ visS x d → stmtS y k = 0) → CostStm x := by
 intro x
 induction x using Stm.ind with
 | h op name max a b body els ihb ihe =>
   intro hok d hv
   obtain ⟨f1, f2⟩ := stmFit2 hok
   have hvb : ∀ y k, Vis.s y k ∈ visSs body (IntKind.i64.wrap (d + 1)) → stmtS y k = 0 := fun y k hy => hv y k (vis_body _ hy)
   have hve : ∀ y k, Vis.s y k ∈ visSs els (IntKind.i64.wrap (d + 1)) → stmtS y k = 0 := fun y k hy => hv y k (vis_els _ hy)
   exact statementC _ hok d hv (blockC body f1 _ hvb fun y hy => ihb y hy (Stm.Ok.bodyOk hok y hy) _ fun z k hz => hvb z k (visSs_mem hy _ _ hz)) (blockC els f2 _ hve fun y hy => ihe y hy (Stm.Ok.elsOk hok y hy) _ fun z k hz => hve z k (visSs_mem hy _ _ hz))
theorem bodyC (p : Pr) (hp : p.Ok) (V : Vld p) : CostBlk p.body := blockC p.body hp.bfit 1 V.stm fun x hx => statement_in x (hp.body x hx) 1 fun y k hy => V.stm y k (visSs_mem hx _ _ hy)
end Go.Proofs.YtpbdjgdmhfibmaaGreatDoor
namespace Go.Proofs.YtpbdjgdmhfibmaaGreatDoor
open Go.Abs
-- CTX D
attribute [local congr] ite_congr
set_option maxRecDepth 100000
end Go.Proofs.YtpbdjgdmhfibmaaGreatDoor
namespace Go.Proofs.YtpbdjgdmhfibmaaGreatDoor
open Go.Abs
-- CTX D
attribute [local congr] ite_congr
set_option maxRecDepth 100000
theorem first_ops (p : Pr) (hp : p.Ok) (A : AHeap) : acl D 117 [Pr.av p] A = some (.tuple [.d (.int .i64 (fstP p).1), .d (.int .i64 (fstP p).2.1), .d (.bool (fstP p).2.2)], A) :=
 firstD p hp (fun h => by have := few_ops p h; omega) A
theorem detD (p : Pr) (hp : p.Ok) (A : AHeap) : acl D 80 [Pr.av p] A = some (.d (.int .i64 (detS p)), A) := by
 have c1 := up (checkOfG p hp A)
 have f1 := first_ops p hp A
 rw [kD Tryz.func80 rfl Tryz.ntmps80 Tryz.results80]
 unfold detS
 cases h1 : decide (chkS p = 0) with
 | false => simp only [go_sem, acondK_bool, k_drawn_q, c1, h1]
 | true => cases h2 : (fstP p).2.2 <;> simp only [go_sem, acondK_bool, k_drawn_q, c1, h1, f1, h2]
theorem chk_val {p : Pr} (h : chkS p = 0) : valS p = 0 := by
 unfold chkS at h
 by_cases h1 : decide (preErr p = 0) = true
 ·have h2 : preErr p = 0 := by simpa using h1
  unfold preErr at h2
  by_cases h3 : valS p = 0
  ·exact h3
  ·rw [if_neg (by simpa using h3)] at h2; exact h2
 ·rw [if_neg h1] at h
  rw [h] at h1
  exact absurd rfl h1
end Go.Proofs.YtpbdjgdmhfibmaaGreatDoor
namespace Go.Proofs.YtpbdjgdmhfibmaaGreatDoor
open Go.Abs
-- CTX D
attribute [local congr] ite_congr
set_option maxRecDepth 100000
section
variable {env : AEnv} {A : AHeap} {x : Operand} {k : IntKind}
@[go_sem] theorem jx0 : aindexK D env A 147 x (some (.d (.int k 0))) = aplK A 0 (aplace env x) := ixK D rfl 0 (by decide)
@[go_sem] theorem jx1 : aindexK D env A 147 x (some (.d (.int k 1))) = aplK A 1 (aplace env x) := ixK D rfl 1 (by decide)
@[go_sem] theorem jx2 : aindexK D env A 147 x (some (.d (.int k 2))) = aplK A 2 (aplace env x) := ixK D rfl 2 (by decide)
@[go_sem] theorem jx3 : aindexK D env A 147 x (some (.d (.int k 3))) = aplK A 3 (aplace env x) := ixK D rfl 3 (by decide)
end
def limS (k : K) : Int := if decide (16384 < k.s) = true then 13 else if (decide (64 < k.g) || decide (64 < k.p) || decide (16 < k.e)) = true then 2 else 0
def costC (p : Pr) : Int := if decide (detS p = 0) = true then limS (tSs p.body).cut else detS p
theorem det_vld {p : Pr} (h : detS p = 0) : Vld p := by
 refine (valS_zero p).1 (chk_val ?_)
 unfold detS at h
 by_cases h1 : decide (chkS p = 0) = true
 ·simpa using h1
 ·rw [if_neg h1] at h
  rw [h] at h1
  exact absurd rfl h1
theorem costD (p : Pr) (hp : p.Ok) (A : AHeap) : acl D 42 [Pr.av p] A = some (.d (.int .i64 (costC p)), A) := by
 have d1 := detD p hp A
 rw [kD Tryz.func42 rfl Tryz.ntmps42 Tryz.results42]
 unfold costC
 cases c1 : decide (detS p = 0) with
 | false => simp only [go_sem, acondK_bool, k_drawn_q, d1, c1]
 | true =>
   have b1 := up (bodyC p hp (det_vld (by simpa using c1)) A)
   unfold limS
   generalize (tSs p.body).cut = k at *
   cases q1 : decide (16384 < k.s) with
   | true => simp only [go_sem, acondK_bool, k_drawn_q, d1, c1, b1, q1]
   | false => cases q2 : decide (64 < k.g) <;> cases q3 : decide (64 < k.p) <;> cases q4 : decide (16 < k.e) <;> simp only [go_sem, acondK_bool, k_drawn_q, d1, c1, b1, q1, q2, q3, q4]
end Go.Proofs.YtpbdjgdmhfibmaaGreatDoor
namespace Go.Proofs.YtpbdjgdmhfibmaaGreatDoor
open Go.Abs
attribute [local congr] ite_congr
set_option maxRecDepth 100000
theorem chk_zero {p : Pr} (h : chkS p = 0) : Vld p ∧ prmBool p.params = false ∧ dupR [] (namesS p) = false ∧ preErr p = 0 ∧ (ckB p).1 = 0 := by
 unfold chkS at h
 by_cases h0 : preErr p = 0
 ·rw [if_pos (by simpa using h0)] at h
  have h1 := h0
  unfold preErr at h1
  by_cases hv : valS p = 0
  ·rw [if_pos (by simpa using hv)] at h1
   split at h1
   ·cases h1
   ·rename_i hb
    split at h1
    ·cases h1
    ·rename_i hd
     have hdup : dupF [] (namesS p) = dupR [] (namesS p) := dup_eq (namesS p) []
     exact ⟨(valS_zero p).1 hv, by simpa using hb, by rw [← hdup]; simpa using hd, h0, h⟩
  ·rw [if_neg (by simpa using hv)] at h1
   exact absurd h1 hv
 ·rw [if_neg (by simpa using h0)] at h
  exact absurd h h0
@[go_sem] theorem plainT (s : Bytes) (A : AHeap) (hl : s.length ≤ 1099511627776) : acl C 82 [.d (.str s)] A = some (.d (.bool (plainS s)), A) := by
  rw [kC Tryz.func82 rfl Tryz.ntmps82 Tryz.results82]
  simp +contextual only [go_sem, acondK_bool]
  refine loop_list (fun n => [(0, .v (.d (.str s))), (3, .v (.d (.int .i64 (n : Int))))]) (fun pre suf => some (.d (.bool (suf.all inner && decide ((s.length : Int) ≤ 64))), A)) s rfl (by simp [plainS]) ?_
  intro pre suf h ih
  subst h
  have hb : pre.length < 9223372036854775807 := by simp at hl; omega
  cases suf with
  | nil => simp +contextual only [go_sem, acondK_bool]
  | cons x suf =>
    simp +contextual only [go_sem, acondK_bool, ih x suf rfl, wrap_nat hb]
    refine leafB ?_
    cases hx : inner x <;> simp [hx] <;> simp [inner] at hx <;> omega
def fitI (v : Vl) (t : Int) : Bool := (decide (v.kind = 1) && (v.s == [])) && decide (t = 1)
def fitT (v : Vl) (t : Int) : Bool := ((decide (v.kind = 2) && decide (v.n = 0)) && plainS v.s) && decide (t = 2)
def fitS (v : Vl) (t : Int) : Bool := if decide (t = 1) = true then decide (v.kind = 1) && (v.s == []) else (decide (v.kind = 2) && decide (v.n = 0)) && plainS v.s
theorem fit_eq (v : Vl) {t : Int} (h : t = 1 ∨ t = 2) : fitS v t = (fitI v t || fitT v t) := by
 rcases h with rfl | rfl <;> simp [fitS, fitI, fitT]
def argsS (p : Pr) (vs : List Vl) : Int :=
 if (!decide (chkS p = 0) || !decide ((vs.length : Int) = (p.params.length : Nat))) = true then 1
 else if (vs.zip p.params).all (fun x => fitS x.1 x.2.type) = true then 0 else 10
theorem zip_fst {α β : Type} : ∀ (a : List α) (b : List β), a.length = b.length → (a.zip b).map Prod.fst = a
 | [], [], _ => rfl
 | x :: a, y :: b, h => by
   rw [List.zip_cons_cons, List.map_cons, zip_fst a b (by simpa using h)]
theorem zip_snd {α β : Type} : ∀ (a : List α) (b : List β), a.length = b.length → (a.zip b).map Prod.snd = b
 | [], [], _ => rfl
 | x :: a, y :: b, h => by
   rw [List.zip_cons_cons, List.map_cons, zip_snd a b (by simpa using h)]
set_option maxHeartbeats 1000000 in
theorem argsOf (p : Pr) (hp : p.Ok) (h40 : p.params.length ≤ 40) (vs : List Vl) (hv : ∀ v ∈ vs, v.Ok) (A : AHeap) : acl C 43 [Pr.av p, .d (.slice (vs.map Vl.row))] A = some (.d (.int .i64 (argsS p vs)), A) := by
 have c1 := checkOf p hp h40 A
 rw [kC Tryz.func43 rfl Tryz.ntmps43 Tryz.results43]
 unfold argsS
 cases hc : decide (chkS p = 0) with
 | false => simp only [go_sem, acondK_bool, c1, hc]
 | true =>
 cases hl : decide ((vs.length : Int) = (p.params.length : Int)) with
 | false => simp only [go_sem, acondK_bool, c1, hc, hl]
 | true =>
 have V := (chk_zero (by simpa using hc : chkS p = 0)).1
 have hb := (chk_zero (by simpa using hc : chkS p = 0)).2.1
 have hl2 : vs.length = p.params.length := by simp at hl; omega
 have hty : ∀ x ∈ p.params, x.type = 1 ∨ x.type = 2 := by
  intro x hx
  have h1 := ((prmS_zero3 _).1 V.prm).2.1 x hx
  have h2 : ¬ x.type = 3 := by
   intro h3
   have : prmBool p.params = true := by
    unfold prmBool
    exact List.any_eq_true.2 ⟨x, hx, by simpa using h3⟩
   rw [this] at hb
   cases hb
  omega
 simp only [go_sem, acondK_bool, c1, hc, hl]
 have z1 := zip_fst vs p.params hl2
 have z2 := zip_snd vs p.params hl2
 have z3 : (vs.zip p.params).length = vs.length := by simp [hl2]
 have z4 : ∀ x ∈ vs.zip p.params, x.1.Ok ∧ (x.2.type = 1 ∨ x.2.type = 2) := fun x hx => ⟨hv _ (List.of_mem_zip hx).1, hty _ (List.of_mem_zip hx).2⟩
 generalize vs.zip p.params = l at *
 refine loop_any (fun pre => [(21, .v (.d (.int .i64 (vs.length : Nat)))), (20, .v (.d (.slice (vs.map Vl.row)))), (2, .box [.d (.str p.name), .d (.slice (p.params.map Pm.row)), .d (.slice (p.body.map Stm.row))]), (22, .v (.d (.int .i64 (pre.length : Nat))))])
  (fun _ => A) (fun _ suf => some (.d (.int .i64 (if suf.all (fun x => fitS x.1 x.2.type) = true then 0 else 10)), A)) l rfl rfl (by simp) ?_
 intro pre suf h ih
 have hb : pre.length < 9223372036854775807 := by rw [h] at z3; simp at z3; omega
 cases suf with
 | nil =>
   have e4 : decide ((pre.length : Int) < (vs.length : Int)) = false := by rw [← z3, h]; simp
   simp only [go_sem, acondK_bool, e4]
 | cons x suf =>
   obtain ⟨v, m⟩ := x
   have e2 := ih (v, m) suf rfl
   rw [List.length_append, List.length_cons, List.length_nil] at e2
   have e3 : (vs.map Vl.row)[pre.length]? = some [.int .i64 v.kind, .int .i64 v.n, .str v.s] := by rw [← z1, h, List.map_map]; exact map_mid
   have e5 : (p.params.map Pm.row)[pre.length]? = some [.str m.name, .int .i64 m.type] := by rw [← z2, h, List.map_map]; exact map_mid
   have e4 : decide ((pre.length : Int) < (vs.length : Int)) = true := by rw [← z3, h]; simp; omega
   obtain ⟨hvo, ht⟩ := z4 (v, m) (by rw [h]; simp)
   have p1 := plainT v.s A hvo.s
   have hf := fit_eq v ht
   simp only [List.all_cons, hf, fitI, fitT]
   simp only at hvo ht
   cases k1 : decide (v.kind = 1) with
   | true =>
     have k2 : decide (v.kind = 2) = false := by simp at k1 ⊢; omega
     cases k3 : (v.s == []) with
     | false => simp only [go_sem, acondK_bool, e3, e4, e5, e2, k1, k2, k3, wrap_nat hb]
     | true =>
       cases k4 : decide (m.type = 1) <;> simp only [go_sem, acondK_bool, e3, e4, e5, e2, k1, k2, k3, k4, wrap_nat hb]
   | false =>
     cases k2 : decide (v.kind = 2) with
     | false => simp only [go_sem, acondK_bool, e3, e4, e5, e2, k1, k2, wrap_nat hb]
     | true =>
       cases k3 : decide (v.n = 0) with
       | false => simp only [go_sem, acondK_bool, e3, e4, e5, e2, k1, k2, k3, wrap_nat hb]
       | true =>
         cases k4 : plainS v.s with
         | false => simp only [go_sem, acondK_bool, e3, e4, e5, e2, k1, k2, k3, p1, k4, wrap_nat hb]
         | true => cases k5 : decide (m.type = 2) <;> simp only [go_sem, acondK_bool, e3, e4, e5, e2, k1, k2, k3, p1, k4, k5, wrap_nat hb]
theorem vld_prm {p : Pr} (V : Vld p) : p.params.length ≤ 40 := by
 have := ((prmS_zero3 _).1 V.prm).1
 omega
theorem checkAny (p : Pr) (hp : p.Ok) (A : AHeap) : acl C 17 [Pr.av p] A = some (.d (.int .i64 (chkS p)), A) := by
 cases h1 : decide (valS p = 0) with
 | true => exact checkOf p hp (vld_prm ((valS_zero p).1 (by simpa using h1))) A
 | false =>
 have v1 := validate p hp
 have f0 : ∀ n, afinR C 34 A A (some (.tuple [.nilM, .d (.int .i64 n)])) = some (.tuple [.nilM, .d (.int .i64 n)], A) :=
  fun n => afinR_still (c := C) (f := 34) (v := .tuple [.nilM, .d (.int .i64 n)]) rfl rfl
 have h2 : preErr p = valS p := by unfold preErr; rw [if_neg (by rw [h1]; decide)]
 have h3 : decide (preErr p = 0) = false := by rw [h2]; exact h1
 have c1 : acl C 34 [Pr.av p] A = some (.tuple [.nilM, .d (.int .i64 (preErr p))], A) := by
  rw [kC Tryz.func34 rfl Tryz.ntmps34 Tryz.results34]
  rw [h2]
  simp only [go_sem, acondK_bool, v1, h1, f0]
 rw [kC Tryz.func17 rfl Tryz.ntmps17 Tryz.results17]
 unfold chkS
 rw [h3]
 simp only [go_sem, acondK_bool, c1]
theorem argsAny (p : Pr) (hp : p.Ok) (vs : List Vl) (hv : ∀ v ∈ vs, v.Ok) (A : AHeap) : acl C 43 [Pr.av p, .d (.slice (vs.map Vl.row))] A = some (.d (.int .i64 (argsS p vs)), A) := by
 cases hc : decide (chkS p = 0) with
 | true =>
   have V := (chk_zero (by simpa using hc : chkS p = 0)).1
   exact argsOf p hp (vld_prm V) vs hv A
 | false =>
 have c1 := checkAny p hp A
 rw [kC Tryz.func43 rfl Tryz.ntmps43 Tryz.results43]
 unfold argsS
 simp only [go_sem, acondK_bool, c1, hc]
end Go.Proofs.YtpbdjgdmhfibmaaGreatDoor
namespace Go.Proofs.YtpbdjgdmhfibmaaGreatDoor
open Go.Abs
theorem with_mem {l : List Bytes} {k j : Bytes} (h : j ∈ withS l k) : j ∈ l ∨ j = k := by
 unfold withS at h
 split at h
 ·exact .inl h
 ·rcases List.mem_append.1 h with h | h
  ·exact .inl (List.mem_of_mem_take h)
  ·rcases List.mem_cons.1 h with rfl | h
   ·exact .inr rfl
   ·exact .inl (List.mem_of_mem_drop h)
structure Ag (s : List Kv) (fr fw : List Bytes) (m m' : Mc) : Prop where
 eq : m' = { m with state := s }
 fa : m.fa = false
 er : m.fr = fr
 ew : m.fw = fw
 get : ∀ k, hasN fr k = true → getS s k = getS m.state k
 wr : ∀ k ∈ m.writes, hasN fw k = true
section
variable {s : List Kv} {fr fw : List Bytes}
def AgV (s : List Kv) (fr fw : List Bytes) : Rv → Rv → Prop
 | .ok v a, .ok w b => v = w ∧ Ag s fr fw a b
 | .stop y a, .stop z b => y = z ∧ Ag s fr fw a b
 | _, _ => False
def AgL (s : List Kv) (fr fw : List Bytes) : Rl → Rl → Prop
 | .ok v a, .ok w b => v = w ∧ Ag s fr fw a b
 | .stop y a, .stop z b => y = z ∧ Ag s fr fw a b
 | _, _ => False
def AgX (s : List Kv) (fr fw : List Bytes) : Rx → Rx → Prop
 | .ok a, .ok b => Ag s fr fw a b
 | .stop y a, .stop z b => y = z ∧ Ag s fr fw a b
 | _, _ => False
theorem at_ag {o : Oc} {a b : Mc} (h : Ag s fr fw a b) : AgV s fr fw (o.atV a) (o.atV b) := by cases o <;> exact ⟨rfl, h⟩
theorem Ag.read {a b : Mc} (h : Ag s fr fw a b) (k : Bytes) : Ag s fr fw { a with reads := withS a.reads k } { b with reads := withS b.reads k } :=
 ⟨by rw [h.eq], h.fa, h.er, h.ew, h.get, h.wr⟩
theorem getter_ag {a b : Mc} (h : Ag s fr fw a b) (op : Int) (v : Vl) : AgV s fr fw (getterV a op v) (getterV b op v) := by
 have e2 : b.fa = false := by rw [h.eq]; exact h.fa
 have e3 : b.fr = a.fr := by rw [h.eq]
 have e1 : b.own = a.own := by rw [h.eq]
 have e4 : getS b.state = getS s := by rw [h.eq]
 have e5 : (!b.fa) = true := by rw [e2]; rfl
 have e6 : (!a.fa) = true := by rw [h.fa]; rfl
 unfold getterV
 rw [e1, e3, e4, e5, e6]
 cases decide (v.kind = 2) with
 | false => exact ⟨rfl, h⟩
 | true =>
 simp only [if_true]
 cases keyV v.s with
 | false => exact ⟨rfl, h⟩
 | true =>
 simp only [if_true]
 cases lookE a.own v.s with
 | some r => exact at_ag h
 | none =>
 simp only [Bool.true_and]
 cases hf : hasN a.fr v.s with
 | false => exact ⟨rfl, h⟩
 | true =>
   simp only [Bool.not_true, Bool.false_eq_true, if_false]
   rw [h.get v.s (by rw [← h.er]; exact hf)]
   have q := h.read v.s
   simp only [e1, e3] at q
   exact at_ag q
theorem un_ag {a b : Mc} (h : Ag s fr fw a b) (op : Int) (v : Vl) : AgV s fr fw (unV a op v) (unV b op v) := by
 unfold unV
 split
 ·split
  ·exact at_ag h
  ·exact ⟨rfl, h⟩
 split
 ·split
  ·exact ⟨rfl, h⟩
  ·exact ⟨rfl, h⟩
 split
 ·split
  ·exact at_ag h
  ·exact ⟨rfl, h⟩
 split
 ·split
  ·exact ⟨rfl, h⟩
  ·exact ⟨rfl, h⟩
 exact getter_ag h op v
theorem ap_ag {a b : Mc} (h : Ag s fr fw a b) (op : Int) : ∀ vs : List Vl, AgV s fr fw (apV op vs a) (apV op vs b)
 | [] => ⟨rfl, h⟩
 | [v] => un_ag h op v
 | [_, _] => at_ag h
 | _ :: _ :: _ :: _ => ⟨rfl, h⟩
mutual
theorem ev_ag : ∀ (e : E) {a b : Mc}, Ag s fr fw a b → AgV s fr fw (evE e a) (evE e b)
 | .mk op k t args, a, b, h => by
   have e1 : b.vars = a.vars := by rw [h.eq]
   simp only [evE]
   split
   ·exact ⟨rfl, h⟩
   split
   ·exact ⟨rfl, h⟩
   split
   ·rw [e1]
    cases lookE a.vars t with
    | some v => exact ⟨rfl, h⟩
    | none => exact ⟨rfl, h⟩
   have q := evL_ag args h
   cases h1 : evL args a with
   | ok vs a1 =>
     cases h2 : evL args b with
     | ok ws b1 =>
       rw [h1, h2] at q
       obtain ⟨rfl, q⟩ := q
       exact ap_ag q op vs
     | stop z b1 => rw [h1, h2] at q; exact q.elim
   | stop y a1 =>
     cases h2 : evL args b with
     | ok ws b1 => rw [h1, h2] at q; exact q.elim
     | stop z b1 => rw [h1, h2] at q; exact q
theorem evL_ag : ∀ (l : List E) {a b : Mc}, Ag s fr fw a b → AgL s fr fw (evL l a) (evL l b)
 | [], a, b, h => ⟨rfl, h⟩
 | e :: l, a, b, h => by
   have q := ev_ag e h
   simp only [evL]
   cases h1 : evE e a with
   | ok v a1 =>
     cases h2 : evE e b with
     | ok w b1 =>
       rw [h1, h2] at q
       obtain ⟨rfl, q⟩ := q
       have r := evL_ag l q
       simp only
       cases h3 : evL l a1 with
       | ok vs a2 =>
         cases h4 : evL l b1 with
         | ok ws b2 =>
           rw [h3, h4] at r
           obtain ⟨rfl, r⟩ := r
           exact ⟨rfl, r⟩
         | stop z b2 => rw [h3, h4] at r; exact r.elim
       | stop y a2 =>
         cases h4 : evL l b1 with
         | ok ws b2 => rw [h3, h4] at r; exact r.elim
         | stop z b2 => rw [h3, h4] at r; exact r
     | stop z b1 => rw [h1, h2] at q; exact q.elim
   | stop y a1 =>
     cases h2 : evE e b with
     | ok w b1 => rw [h1, h2] at q; exact q.elim
     | stop z b1 => rw [h1, h2] at q; exact q
end
theorem agv_bind {r t : Rv} {f g : Vl → Mc → Rx} (h : AgV s fr fw r t) (hs : ∀ v a b, Ag s fr fw a b → AgX s fr fw (f v a) (g v b)) : AgX s fr fw (r.bind f) (t.bind g) := by
 cases r with
 | ok v a =>
   cases t with
   | ok w b => obtain ⟨rfl, h⟩ := h; exact hs v a b h
   | stop z b => exact h.elim
 | stop y a =>
   cases t with
   | ok w b => exact h.elim
   | stop z b => exact h
theorem agx_bind {r t : Rx} {f g : Mc → Rx} (h : AgX s fr fw r t) (hs : ∀ a b, Ag s fr fw a b → AgX s fr fw (f a) (g b)) : AgX s fr fw (r.bind f) (t.bind g) := by
 cases r with
 | ok a =>
   cases t with
   | ok b => exact hs a b h
   | stop z b => exact h.elim
 | stop y a =>
   cases t with
   | ok b => exact h.elim
   | stop z b => exact h
theorem must_ag {p : Bool} {a b : Mc} {r t : Rx} (h : Ag s fr fw a b) (hr : AgX s fr fw r t) : AgX s fr fw (mustR p a r) (mustR p b t) := by
 unfold mustR
 cases p
 ·exact ⟨rfl, h⟩
 ·exact hr
theorem Ag.setv {a b : Mc} (h : Ag s fr fw a b) (name : Bytes) (v : Vl) : Ag s fr fw { a with vars := setE a.vars name v } { b with vars := setE b.vars name v } :=
 ⟨by rw [h.eq], h.fa, h.er, h.ew, h.get, h.wr⟩
theorem store_ag {a b : Mc} (h : Ag s fr fw a b) (k : Bytes) (v : Vl) : AgX s fr fw (storeR a k v) (storeR b k v) := by
 have e2 : b.fa = false := by rw [h.eq]; exact h.fa
 have e3 : b.fw = a.fw := by rw [h.eq]
 have e5 : (!b.fa) = true := by rw [e2]; rfl
 have e6 : (!a.fa) = true := by rw [h.fa]; rfl
 unfold storeR
 rw [e3, e5, e6]
 cases keyV k with
 | false => exact ⟨rfl, h⟩
 | true =>
 simp only [if_true, Bool.true_and]
 cases hf : hasN a.fw k with
 | false => exact ⟨rfl, h⟩
 | true =>
   refine ⟨by rw [h.eq], h.fa, h.er, h.ew, h.get, fun j hj => ?_⟩
   rcases with_mem hj with hj | rfl
   ·exact h.wr j hj
   ·rw [← h.ew]; exact hf
theorem emit_ag {a b : Mc} (h : Ag s fr fw a b) (v : Vl) : AgX s fr fw (emitR a v) (emitR b v) := by
 have e : b.out = a.out := by rw [h.eq]
 unfold emitR
 rw [e]
 split
 ·exact ⟨rfl, h⟩
 ·exact ⟨by rw [h.eq], h.fa, h.er, h.ew, h.get, h.wr⟩
theorem tick_ag {a b : Mc} (h : Ag s fr fw a b) : AgX s fr fw (tickR a) (tickR b) := by
 have e : b.steps = a.steps := by rw [h.eq]
 unfold tickR
 rw [e]
 split
 ·exact ⟨rfl, by rw [h.eq], h.fa, h.er, h.ew, h.get, h.wr⟩
 ·exact ⟨by rw [h.eq], h.fa, h.er, h.ew, h.get, h.wr⟩
theorem loop_ag {f : Mc → Rx} (hf : ∀ a b, Ag s fr fw a b → AgX s fr fw (f a) (f b)) (name : Bytes) : ∀ (n : Nat) (i : Int) (a b : Mc), Ag s fr fw a b → AgX s fr fw (loopR f name n i a) (loopR f name n i b)
 | 0, _, a, b, h => h
 | n + 1, i, a, b, h => by
   simp only [loopR]
   refine agx_bind (tick_ag h) fun a1 b1 h1 => ?_
   exact agx_bind (hf _ _ (h1.setv name ⟨1, i, []⟩)) fun a2 b2 h2 => loop_ag hf name n (i + 1) a2 b2 h2
mutual
theorem exS_ag : ∀ (x : Stm) {a b : Mc}, Ag s fr fw a b → AgX s fr fw (exS x a) (exS x b)
 | .mk op name max ea eb body els, a, b, h => by
   simp only [exS]
   split
   ·exact agv_bind (ev_ag ea h) fun v a b h => h.setv name v
   split
   ·refine agv_bind (ev_ag ea h) fun k a b h => agv_bind (ev_ag eb h) fun v a b h => ?_
    exact must_ag h (store_ag h k.s v)
   split
   ·exact agv_bind (ev_ag ea h) fun k a b h => must_ag h (store_ag h k.s zeroV)
   split
   ·refine agv_bind (ev_ag ea h) fun v a b h => must_ag h ?_
    split
    ·exact exL_ag body h
    ·exact exL_ag els h
   split
   ·refine agv_bind (ev_ag ea h) fun lo a b h => agv_bind (ev_ag eb h) fun hi a b h => must_ag h ?_
    split
    ·exact ⟨rfl, h⟩
    ·exact loop_ag (fun x y h => exL_ag body h) name _ _ a b h
   split
   ·exact agv_bind (ev_ag ea h) fun v a b h => must_ag h (emit_ag h v)
   split
   ·exact ⟨rfl, h⟩
   ·exact h
theorem exL_ag : ∀ (l : List Stm) {a b : Mc}, Ag s fr fw a b → AgX s fr fw (exL l a) (exL l b)
 | [], a, b, h => h
 | x :: l, a, b, h => by
   simp only [exL]
   exact agx_bind (tick_ag h) fun a1 b1 h1 => agx_bind (exS_ag x h1) fun a2 b2 h2 => exL_ag l h2
end
end
structure Ef where
 st : Int
 code : Int
 out : List Vl
 rd : List Bytes
 wr : List Bytes
 ws : List Kv
 miss : Bytes
 steps : Int
def putsK (own : List (Bytes × Vl)) (l : List Bytes) : List Kv := l.map fun k => ⟨k, (lookE own k).getD zeroV⟩
def efR : Rx → Ef
 | .ok m => ⟨1, 0, m.out, m.reads, m.writes, putsK m.own m.writes, [], m.steps⟩
 | .stop z m => ⟨z.st, z.code, [], m.reads, m.writes, [], z.miss, m.steps⟩
theorem ef_ag {s : List Kv} {fr fw : List Bytes} {r t : Rx} (h : AgX s fr fw r t) : efR r = efR t ∧ ∀ p ∈ (efR r).ws, hasN fw p.key = true := by
 cases r with
 | ok a =>
   cases t with
   | ok b =>
     refine ⟨?_, fun p hp => ?_⟩
     ·rw [h.eq]; rfl
     ·simp only [efR, putsK, List.mem_map] at hp
      obtain ⟨k, hk, rfl⟩ := hp
      exact h.wr k hk
   | stop z b => exact h.elim
 | stop y a =>
   cases t with
   | ok b => exact h.elim
   | stop z b =>
     obtain ⟨rfl, h⟩ := h
     refine ⟨by rw [h.eq]; rfl, fun p hp => ?_⟩
     simp [efR] at hp
def runOk (p : Pr) (vs : List Vl) (l : List Kv) : Bool := decide (costC p = 0) && (decide (argsS p vs = 0) && stV l)
def varsR : List (Vl × Pm) → List (Bytes × Vl) → List (Bytes × Vl)
 | [], l => l
 | x :: z, l => varsR z (setE l x.2.name x.1)
theorem varsR_app : ∀ (a b : List (Vl × Pm)) (l : List (Bytes × Vl)), varsR (a ++ b) l = varsR b (varsR a l)
 | [], _, _ => rfl
 | _ :: a, b, l => varsR_app a b _
theorem plain64 {s : Bytes} (h : plainS s = true) : s.length ≤ 64 := by
 unfold plainS at h
 simp only [Bool.and_eq_true, decide_eq_true_eq] at h
 omega
theorem name16 {s : Bytes} (h : isName s = true) : s.length ≤ 16 ∧ s ≠ [] := by
 unfold isName at h
 split at h
 ·cases h
 ·simp only [Bool.and_eq_true, decide_eq_true_eq] at h
  refine ⟨by omega, by simp⟩
theorem node_zero {op n : Int} {s : Bytes} {len : Nat} {d : Int} (h : nodeS op n s len d = 0) : s.length ≤ 64 ∧ (len : Int) = ar op := by
 unfold nodeS at h
 split at h
 ·cases h
 rename_i h1
 split at h
 ·cases h
 rename_i h2
 split at h
 ·cases h
 rename_i h3
 simp only [Bool.or_eq_true, Bool.and_eq_true, not_or, not_and, Bool.not_eq_true', Bool.not_eq_true, decide_eq_false_iff_not, decide_eq_true_eq, Decidable.not_not, Bool.not_eq_false, beq_eq_false_iff_ne, beq_iff_eq] at h1 h2 h3
 refine ⟨?_, by simpa using h3.2⟩
 by_cases e2 : op = 2
 ·exact plain64 (h3.1.2 e2)
 ·by_cases e3 : op = 3
  ·have := name16 (h2 e3); omega
  ·have hs : s = [] := by simpa using h1.2 ⟨e2, e3⟩
   subst hs; simp
theorem chk_parts {op n : Int} {s : Bytes} {args : List E} {d : Int} (h : chkE (.mk op n s args) d = 0) : nodeS op n s args.length d = 0 ∧ chkL args (IntKind.i64.wrap (d + 1)) = 0 := by
 rw [chkE] at h
 by_cases hn : nodeS op n s args.length d = 0
 ·rw [if_pos hn] at h; exact ⟨hn, h⟩
 ·rw [if_neg hn] at h; exact absurd h hn
theorem chkL_parts {x : E} {l : List E} {d : Int} (h : chkL (x :: l) d = 0) : chkE x d = 0 ∧ chkL l d = 0 := by
 rw [chkL] at h
 by_cases hx : chkE x d = 0
 ·rw [if_pos hx] at h; exact ⟨hx, h⟩
 ·rw [if_neg hx] at h; exact absurd h hx
mutual
theorem lit_of : ∀ (e : E) (d : Int), e.Ok → chkE e d = 0 → litE e
 | .mk op n s args, d, ho, h => by
   obtain ⟨h1, h2⟩ := chk_parts h
   obtain ⟨h3, h4⟩ := node_zero h1
   have hn : i64 n := by cases ho; assumption
   have q1 := lit_ofL args _ (fun x hx => ho.arg x hx) h2
   simp only [litE]
   exact ⟨hn, h3, q1⟩
theorem lit_ofL : ∀ (l : List E) (d : Int), (∀ x ∈ l, x.Ok) → chkL l d = 0 → litL l
 | [], _, _, _ => trivial
 | x :: l, d, ho, h => by
   obtain ⟨h1, h2⟩ := chkL_parts h
   have a1 := lit_of x d (ho x (by simp)) h1
   have b1 := lit_ofL l d (fun y hy => ho y (by simp [hy])) h2
   simp only [litL]
   exact ⟨a1, b1⟩
end
theorem lit_abs : ∀ {e : E}, absE e = true → litE e ∧ nodE e = 1
 | .mk op n s args, h => by
   have h' : absentS op n s args.length = true := h
   unfold absentS at h'
   simp only [Bool.and_eq_true, decide_eq_true_eq, beq_iff_eq] at h'
   obtain ⟨⟨⟨h1, h2⟩, h3⟩, h4⟩ := h'
   have h5 : args = [] := List.eq_nil_of_length_eq_zero (by omega)
   subst h2 h3 h5
   simp only [litE, litL, nodE, nodL]
   refine ⟨⟨by unfold i64; omega, by simp, trivial⟩, trivial⟩
mutual
theorem nod_vis : ∀ (e : E) (r : Bool), (visE e r).length = nodE e
 | .mk op n s args, r => by simp only [visE, nodE, List.length_cons, nod_visL args]
theorem nod_visL : ∀ (l : List E), (visEs l).length = nodL l
 | [] => rfl
 | x :: l => by simp only [visEs, nodL, List.length_append, nod_vis x, nod_visL l]
end
theorem opt_of {e : E} (ho : e.Ok) (hc : chkE e 1 = 0 ∨ absE e = true) : litE e ∧ nodE e ≤ (if absE e = true then [] else visE e true).length + 1 := by
 by_cases ha : absE e = true
 ·obtain ⟨h1, h3⟩ := lit_abs ha
  exact ⟨h1, by omega⟩
 ·rcases hc with hc | hc
  ·have h1 := lit_of e 1 ho hc
   rw [if_neg ha, nod_vis]
   exact ⟨h1, by omega⟩
  ·exact absurd hc ha
mutual
theorem w_of : ∀ (x : Stm) (d : Int), x.Ok → (∀ y k, Vis.s y k ∈ visS x d → StmOk y k) → (visS x d).length ≤ 400 → stW 1000 x
 | .mk op name max a b body els, d, ho, hk, hl => by
   have k0 := hk _ d (by rw [visS]; exact List.mem_cons_self ..)
   obtain ⟨oa, ob, o1, o2⟩ : a.Ok ∧ b.Ok ∧ (∀ x, x ∈ body → Stm.Ok x) ∧ (∀ x, x ∈ els → Stm.Ok x) := by
    cases ho; exact ⟨by assumption, by assumption, by assumption, by assumption⟩
   rw [visS] at hl
   simp only [List.length_cons, List.length_append] at hl
   have ca : chkE a 1 = 0 ∨ absE a = true := by
    cases h : uA op with
    | true => exact .inl (k0.a h)
    | false => exact .inr (k0.na h)
   have cb : chkE b 1 = 0 ∨ absE b = true := by
    cases h : uB op with
    | true => exact .inl (k0.b h)
    | false => exact .inr (k0.nb h)
   obtain ⟨a1, a3⟩ := opt_of oa ca
   obtain ⟨b1, b3⟩ := opt_of ob cb
   have e1 := w_ofL body _ o1 (fun y k hy => hk y k (by rw [visS]; simp only [List.mem_cons, List.mem_append]; exact .inr (.inr (.inr (.inl hy))))) (by omega)
   have f1 := w_ofL els _ o2 (fun y k hy => hk y k (by rw [visS]; simp only [List.mem_cons, List.mem_append]; exact .inr (.inr (.inr (.inr hy))))) (by omega)
   simp only [stW]
   exact ⟨a1, b1, by omega, e1, f1⟩
theorem w_ofL : ∀ (l : List Stm) (d : Int), (∀ x, x ∈ l → Stm.Ok x) → (∀ y k, Vis.s y k ∈ visSs l d → StmOk y k) → (visSs l d).length ≤ 400 → slW 1000 l
 | [], _, _, _, _ => trivial
 | x :: l, d, ho, hk, hl => by
   rw [visSs] at hl
   simp only [List.length_append] at hl
   have a1 := w_of x d (ho x (by simp)) (fun y k hy => hk y k (by rw [visSs]; exact List.mem_append_left _ hy)) (by omega)
   have b1 := w_ofL l d (fun y hy => ho y (by simp [hy])) (fun y k hy => hk y k (by rw [visSs]; exact List.mem_append_right _ hy)) (by omega)
   simp only [slW]
   exact ⟨a1, b1⟩
end
theorem w_proc {p : Pr} (hp : p.Ok) (V : Vld p) : slW 1000 p.body :=
 w_ofL p.body 1 hp.body (fun y k hy => stmtS_zero (V.stm y k hy)) V.len
theorem val_ok {v : Vl} (ho : v.Ok) (h : valV v = true) : VOk v := by
 refine ⟨ho.kind, ho.n, ?_⟩
 unfold valV at h
 split at h
 ·simp only [Bool.and_eq_true, beq_iff_eq] at h
  rw [h.2]; simp
 split at h
 ·simp only [beq_iff_eq] at h
  rw [h]; simp
 split at h
 ·simp only [Bool.and_eq_true] at h
  exact plain64 h.2
 ·cases h
theorem srt_val : ∀ (l : List Kv) (pv : Option Bytes), srtS pv l = true → ∀ x ∈ l, valV x.v = true
 | [], _, _, x, hx => by cases hx
 | y :: l, pv, h, x, hx => by
   simp only [srtS, Bool.and_eq_true] at h
   rcases List.mem_cons.1 hx with rfl | hx
   ·exact h.2.1
   ·exact srt_val l _ h.2.2.2 x hx
theorem zeroV_fine : VOk zeroV := ⟨i64_0, i64_0, by simp [zeroV]⟩
theorem get_ok : ∀ (l : List Kv) (k : Bytes), (∀ x ∈ l, VOk x.v) → VOk (getS l k)
 | [], _, _ => zeroV_fine
 | y :: l, k, h => by
   unfold getS
   split
   ·exact h y (by simp)
   ·exact get_ok l k fun x hx => h x (by simp [hx])
theorem fit_ok {v : Vl} {t : Int} (ho : v.Ok) (h : fitS v t = true) : VOk v := by
 refine ⟨ho.kind, ho.n, ?_⟩
 unfold fitS at h
 split at h
 ·simp only [Bool.and_eq_true, beq_iff_eq] at h
  rw [h.2]; simp
 ·simp only [Bool.and_eq_true] at h
  exact plain64 h.2
theorem vars_ok : ∀ (z : List (Vl × Pm)) (l : List (Bytes × Vl)), (∀ x ∈ z, VOk x.1) → (∀ k v, lookE l k = some v → VOk v) → ∀ k v, lookE (varsR z l) k = some v → VOk v
 | [], _, _, h, k, v, hk => h k v hk
 | x :: z, l, hz, h, k, v, hk => by
   refine vars_ok z _ (fun y hy => hz y (by simp [hy])) (fun j w hj => ?_) k v hk
   simp only [look_set] at hj
   split at hj
   ·cases hj; exact hz x (by simp)
   ·exact h j w hj
theorem args_fit {p : Pr} {vs : List Vl} (h : argsS p vs = 0) (hv : ∀ v ∈ vs, v.Ok) : ∀ x ∈ vs.zip p.params, VOk x.1 := by
 unfold argsS at h
 split at h
 ·cases h
 split at h
 ·rename_i hall
  intro x hx
  exact fit_ok (hv _ (List.of_mem_zip hx).1) (List.all_eq_true.1 hall x hx)
 ·cases h
theorem run_facts {p : Pr} {vs : List Vl} {l : List Kv} (h : runOk p vs l = true) : costC p = 0 ∧ argsS p vs = 0 ∧ stV l = true := by
 unfold runOk at h
 simp only [Bool.and_eq_true, decide_eq_true_eq] at h
 exact h
theorem cost_vld {p : Pr} (h : costC p = 0) : Vld p := by
 unfold costC at h
 split at h
 ·rename_i h1
  exact det_vld (by simpa using h1)
 ·rename_i h1
  simp only [decide_eq_true_eq] at h1
  exact absurd h h1
theorem bl_irr : ∀ a : Bytes, Op.bytesLess a a = false
 | [] => rfl
 | x :: a => by simp [Op.bytesLess, bl_irr a, UInt8.lt_irrefl]
theorem bl_tri : ∀ a b : Bytes, Op.bytesLess a b = false → Op.bytesLess b a = false → a = b
 | [], [], _, _ => rfl
 | [], _ :: _, h, _ => by simp [Op.bytesLess] at h
 | _ :: _, [], _, h => by simp [Op.bytesLess] at h
 | x :: a, y :: b, h1, h2 => by
   simp only [Op.bytesLess, Bool.or_eq_false_iff, decide_eq_false_iff_not, Bool.and_eq_false_iff, beq_eq_false_iff_ne] at h1 h2
   have hxy : x = y := UInt8.toNat_inj.1 (by
    have a1 := h1.1
    have a2 := h2.1
    rw [UInt8.lt_iff_toNat_lt] at a1 a2
    omega)
   subst hxy
   rw [bl_tri a b (h1.2.resolve_left (by simp)) (h2.2.resolve_left (by simp))]
theorem bl_trans : ∀ a b c : Bytes, Op.bytesLess a b = true → Op.bytesLess b c = true → Op.bytesLess a c = true
 | _, [], _, h, _ => by simp [Op.bytesLess] at h
 | _, _ :: _, [], _, h => by simp [Op.bytesLess] at h
 | [], _ :: _, _ :: _, _, _ => by simp [Op.bytesLess]
 | x :: a, y :: b, z :: c, h1, h2 => by
   simp only [Op.bytesLess, Bool.or_eq_true, decide_eq_true_eq, Bool.and_eq_true, beq_iff_eq] at h1 h2 ⊢
   rcases h1 with h1 | ⟨rfl, h1⟩
   ·rcases h2 with h2 | ⟨rfl, h2⟩
    ·refine .inl ?_
     rw [UInt8.lt_iff_toNat_lt] at h1 h2 ⊢
     omega
    ·exact .inl h1
   ·rcases h2 with h2 | ⟨rfl, h2⟩
    ·exact .inl h2
    ·exact .inr ⟨rfl, bl_trans a b c h1 h2⟩
theorem bl_asym {a b : Bytes} (h : Op.bytesLess a b = true) : Op.bytesLess b a = false := by
 cases h2 : Op.bytesLess b a with
 | false => rfl
 | true => have := bl_trans a b a h h2; rw [bl_irr] at this; cases this
theorem bl_leq (a b : Bytes) : (Op.bytesLess a b || a == b) = !Op.bytesLess b a := by
 cases h : Op.bytesLess a b with
 | true => simp [bl_asym h]
 | false =>
   cases h2 : Op.bytesLess b a with
   | true =>
     have : ¬ a = b := fun e => by rw [e, bl_irr] at h2; cases h2
     simp [this]
   | false => simp [bl_tri a b h h2]
theorem geqF (t : TypeId) (a b : Bytes) : abin Tryz.prog .geq t (.d (.str a)) (.d (.str b)) = some (.d (.bool (!Op.bytesLess a b))) := by rfl
theorem leqF (t : TypeId) (a b : Bytes) : abin Tryz.prog .leq t (.d (.str a)) (.d (.str b)) = some (.d (.bool (!Op.bytesLess b a))) := by
 rw [← bl_leq]; rfl
theorem bl_ne {a b : Bytes} (h : Op.bytesLess a b = true) : b ≠ a := fun e => by rw [e, bl_irr] at h; cases h
theorem bl_ne' {a b : Bytes} (h : Op.bytesLess a b = true) : a ≠ b := fun e => by rw [e, bl_irr] at h; cases h
end Go.Proofs.YtpbdjgdmhfibmaaGreatDoor
