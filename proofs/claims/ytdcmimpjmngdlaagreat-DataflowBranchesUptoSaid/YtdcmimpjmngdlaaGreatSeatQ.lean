/- The flow of stored values: expressions and statements, on the program's side. -/
import Derived.Test.YtdcmimpjmngdlaaGreatSeatH
import Derived.Test.YtdcmimpjmngdlaaGreatSeatP
import Derived.Test.YtdcmimpjmngdlaaGreatGenC
set_option linter.unusedVariables false
set_option linter.unusedSimpArgs false
set_option linter.all false
set_option linter.deprecated false
set_option linter.all false
namespace Go.Proofs.YtdcmimpjmngdlaaGreat
open Go.Abs
attribute [local congr] ite_congr
set_option maxRecDepth 10000
def acs (op : Int) : Bool := decide (op = 22) || decide (op = 23) || decide (op = 24)
theorem readsF (op : Int) (A : AHeap) : acl C 50 [.d (.int .i64 op)] A = some (.d (.bool (acs op)), A) := by
  rw [k_call (c := C) (f := 50) rfl Tryz.func50 rfl (ok 50 (by kernel_rfl)) rfl Tryz.ntmps50 Tryz.results50 (by simp)]
  simp (maxSteps := 1000000) only [go_sem, acondK_bool, acB_merge, Nat.reduceLT, Nat.reduceLeDiff, Nat.reduceEqDiff, Nat.reduceAdd, Nat.reduceSub, Nat.reduceMul, Nat.reduceBEq, Nat.reduceBNe, Nat.reduceBneDiff, Nat.reduceBeqDiff, Int.reduceToNat, Int.reduceLE, Int.reduceLT, Int.reduceEq, Int.reduceNe, Int.reduceNeg, Int.reduceAdd, Int.reduceSub, ↓reduceIte, reduceCtorEq]
  rfl
/-- how the analysis lies in the heap -/
structure HasAn (A : AHeap) (i m : Nat) (c : List Bytes) : Prop where
  o : ∃ a b d, A.objs[i]? = some (.cells [.d a, .d b, .d d, .mapr m])
  m : A.objs[m]? = some (.map (mb c))
mutual
def tntE (c : List Bytes) : E → Bool
  | .mk op n s args => acs op || ((decide (op = 3) && !SS.has c s) || tntEs c args)
def tntEs (c : List Bytes) : List E → Bool
  | [] => false
  | x :: l => tntE c x || tntEs c l
end
theorem tntEs_any (c : List Bytes) : ∀ l, tntEs c l = l.any (tntE c)
  | [] => rfl
  | x :: l => by simp [tntEs, tntEs_any c l]
theorem indexFuncEG (l : List E) (hl : l.length ≤ 1099511627776) (f : FuncId) (fs cs : List AV) (q : E → Bool) (A : AHeap) (hq : ∀ x ∈ l, acl C f (fs ++ E.av x :: cs) A = some (.d (.bool (q x)), A)) :
    acl C 66 [.d (.slice (l.map E.row)), .func (.func f) fs cs] A = some (.d (.int .i64 (idxF q l 0)), A) := by
  rw [k_call (c := C) (f := 66) rfl Tryz.func66 rfl (ok 66 (by kernel_rfl)) rfl Tryz.ntmps66 Tryz.results66 (by simp)]
  simp (maxSteps := 1000000) +contextual only [go_sem, acondK_bool, acB_merge, Nat.reduceLT, Nat.reduceLeDiff, Nat.reduceEqDiff, Nat.reduceAdd, Nat.reduceSub, Nat.reduceMul, Nat.reduceBEq, Nat.reduceBNe, Nat.reduceBneDiff, Nat.reduceBeqDiff, Int.reduceToNat, Int.reduceLE, Int.reduceLT, Int.reduceEq, Int.reduceNe, Int.reduceNeg, Int.reduceAdd, Int.reduceSub, ↓reduceIte, reduceCtorEq]
  refine loop_list (fun i => [(7, .v (.d (.int .i64 (l.length : Nat)))), (1, .v (.func (.func f) fs cs)), (0, .v (.d (.slice (l.map E.row)))), (8, .v (.d (.int .i64 (i : Nat))))])
    (fun pre suf => some (.d (.int .i64 (idxF q suf pre.length)), A)) l rfl rfl ?_
  intro pre suf h ih
  have hb : pre.length < 9223372036854775807 := by rw [h] at hl; simp at hl; omega
  cases suf with
  | nil => rw [List.append_nil] at h; subst h; simp (maxSteps := 1000000) +contextual only [go_sem, acondK_bool, acB_merge, Nat.reduceLT, Nat.reduceLeDiff, Nat.reduceEqDiff, Nat.reduceAdd, Nat.reduceSub, Nat.reduceMul, Nat.reduceBEq, Nat.reduceBNe, Nat.reduceBneDiff, Nat.reduceBeqDiff, Int.reduceToNat, Int.reduceLE, Int.reduceLT, Int.reduceEq, Int.reduceNe, Int.reduceNeg, Int.reduceAdd, Int.reduceSub, ↓reduceIte, reduceCtorEq, idxF]
  | cons x suf =>
    have e1 := hq x (by rw [h]; simp)
    have e2 := ih x suf rfl
    rw [List.length_append, List.length_cons, List.length_nil] at e2
    have e3 : (l.map E.row)[pre.length]? = some (E.row x) := by rw [h]; exact map_mid
    have e4 : decide ((pre.length : Int) < (l.length : Int)) = true := by rw [h]; simp; omega
    rw [E.row_eq] at e3
    simp (maxSteps := 1000000) +contextual only [go_sem, acondK_bool, acB_merge, Nat.reduceLT, Nat.reduceLeDiff, Nat.reduceEqDiff, Nat.reduceAdd, Nat.reduceSub, Nat.reduceMul, Nat.reduceBEq, Nat.reduceBNe, Nat.reduceBneDiff, Nat.reduceBeqDiff, Int.reduceToNat, Int.reduceLE, Int.reduceLT, Int.reduceEq, Int.reduceNe, Int.reduceNeg, Int.reduceAdd, Int.reduceSub, ↓reduceIte, reduceCtorEq, e3, e4, e1, e2, wrap_nat hb, idxF]
theorem containsFuncEG (l : List E) (hl : l.length ≤ 1099511627776) (f : FuncId) (fs cs : List AV) (q : E → Bool) (A : AHeap) (hq : ∀ x ∈ l, acl C f (fs ++ E.av x :: cs) A = some (.d (.bool (q x)), A)) :
    acl C 51 [.d (.slice (l.map E.row)), .func (.func f) fs cs] A = some (.d (.bool (l.any q)), A) := by
  rw [k_call (c := C) (f := 51) rfl Tryz.func51 rfl (ok 51 (by kernel_rfl)) rfl Tryz.ntmps51 Tryz.results51 (by simp)]
  have e1 := indexFuncEG l hl f fs cs q A hq
  simp (maxSteps := 1000000) +contextual only [go_sem, acondK_bool, acB_merge, Nat.reduceLT, Nat.reduceLeDiff, Nat.reduceEqDiff, Nat.reduceAdd, Nat.reduceSub, Nat.reduceMul, Nat.reduceBEq, Nat.reduceBNe, Nat.reduceBneDiff, Nat.reduceBeqDiff, Int.reduceToNat, Int.reduceLE, Int.reduceLT, Int.reduceEq, Int.reduceNe, Int.reduceNeg, Int.reduceAdd, Int.reduceSub, ↓reduceIte, reduceCtorEq, e1, idxF_nonneg]
theorem taintedP {i m : Nat} {c : List Bytes} : ∀ e, E.Ok e → ∀ (A : AHeap), HasAn A i m c → acl C 33 [.ptr i 0, E.av e] A = some (.d (.bool (tntE c e)), A) := by
  intro e
  induction e using E.ind with
  | h op n s args ih =>
    intro hok A hA
    obtain ⟨⟨x0, x1, x2, ho⟩, hm⟩ := hA
    have hA : HasAn A i m c := ⟨⟨x0, x1, x2, ho⟩, hm⟩
    have e1 := containsFuncEG args hok.len 33 [.ptr i 0] [] (tntE c) A (fun x hx => ih x hx (hok.arg x hx) A hA)
    rw [← tntEs_any] at e1
    have hf := afind_mb s c
    rw [k_call (c := C) (f := 33) rfl Tryz.func33 rfl (ok 33 (by kernel_rfl)) rfl Tryz.ntmps33 Tryz.results33 (by simp)]
    unfold tntE
    cases h1 : acs op with
    | true => simp (maxSteps := 1000000) only [go_sem, acondK_bool, acB_merge, Nat.reduceLT, Nat.reduceLeDiff, Nat.reduceEqDiff, Nat.reduceAdd, Nat.reduceSub, Nat.reduceMul, Nat.reduceBEq, Nat.reduceBNe, Nat.reduceBneDiff, Nat.reduceBeqDiff, Int.reduceToNat, Int.reduceLE, Int.reduceLT, Int.reduceEq, Int.reduceNe, Int.reduceNeg, Int.reduceAdd, Int.reduceSub, ↓reduceIte, reduceCtorEq, k_drawn_q, readsF, h1]
    | false =>
    cases h2 : decide (op = 3) with
    | false => cases h4 : tntEs c args <;> simp (maxSteps := 1000000) only [go_sem, acondK_bool, acB_merge, Nat.reduceLT, Nat.reduceLeDiff, Nat.reduceEqDiff, Nat.reduceAdd, Nat.reduceSub, Nat.reduceMul, Nat.reduceBEq, Nat.reduceBNe, Nat.reduceBneDiff, Nat.reduceBeqDiff, Int.reduceToNat, Int.reduceLE, Int.reduceLT, Int.reduceEq, Int.reduceNe, Int.reduceNeg, Int.reduceAdd, Int.reduceSub, ↓reduceIte, reduceCtorEq, k_drawn_q, readsF, h1, h2, e1, h4]
    | true =>
    cases h3 : SS.has c s with
    | false =>
      rw [h3, if_neg (by decide)] at hf
      simp (maxSteps := 1000000) only [go_sem, acondK_bool, acB_merge, Nat.reduceLT, Nat.reduceLeDiff, Nat.reduceEqDiff, Nat.reduceAdd, Nat.reduceSub, Nat.reduceMul, Nat.reduceBEq, Nat.reduceBNe, Nat.reduceBneDiff, Nat.reduceBeqDiff, Int.reduceToNat, Int.reduceLE, Int.reduceLT, Int.reduceEq, Int.reduceNe, Int.reduceNeg, Int.reduceAdd, Int.reduceSub, ↓reduceIte, reduceCtorEq, k_drawn_q, readsF, h1, h2, ho, hm, hf, h3]
    | true =>
      rw [h3, if_pos rfl] at hf
      cases h4 : tntEs c args <;> simp (maxSteps := 1000000) only [go_sem, acondK_bool, acB_merge, Nat.reduceLT, Nat.reduceLeDiff, Nat.reduceEqDiff, Nat.reduceAdd, Nat.reduceSub, Nat.reduceMul, Nat.reduceBEq, Nat.reduceBNe, Nat.reduceBneDiff, Nat.reduceBeqDiff, Int.reduceToNat, Int.reduceLE, Int.reduceLT, Int.reduceEq, Int.reduceNe, Int.reduceNeg, Int.reduceAdd, Int.reduceSub, ↓reduceIte, reduceCtorEq, k_drawn_q, readsF, h1, h2, ho, hm, hf, h3, e1, h4]
mutual
def oprE (c : List Bytes) : E → Bool
  | .mk op n s args => (acs op && tntEs c args) || oprEs c args
def oprEs (c : List Bytes) : List E → Bool
  | [] => false
  | x :: l => oprE c x || oprEs c l
end
theorem oprEs_any (c : List Bytes) : ∀ l, oprEs c l = l.any (oprE c)
  | [] => rfl
  | x :: l => by simp [oprEs, oprEs_any c l]
theorem operandP {i m : Nat} {c : List Bytes} : ∀ e, E.Ok e → ∀ (A : AHeap), HasAn A i m c → acl C 34 [.ptr i 0, E.av e] A = some (.d (.bool (oprE c e)), A) := by
  intro e
  induction e using E.ind with
  | h op n s args ih =>
    intro hok A hA
    have e1 := containsFuncEG args hok.len 33 [.ptr i 0] [] (tntE c) A (fun x hx => taintedP x (hok.arg x hx) A hA)
    have e2 := containsFuncEG args hok.len 34 [.ptr i 0] [] (oprE c) A (fun x hx => ih x hx (hok.arg x hx) A hA)
    rw [← tntEs_any] at e1
    rw [← oprEs_any] at e2
    rw [k_call (c := C) (f := 34) rfl Tryz.func34 rfl (ok 34 (by kernel_rfl)) rfl Tryz.ntmps34 Tryz.results34 (by simp)]
    unfold oprE
    cases h1 : acs op with
    | false => cases h4 : oprEs c args <;> simp (maxSteps := 1000000) only [go_sem, acondK_bool, acB_merge, Nat.reduceLT, Nat.reduceLeDiff, Nat.reduceEqDiff, Nat.reduceAdd, Nat.reduceSub, Nat.reduceMul, Nat.reduceBEq, Nat.reduceBNe, Nat.reduceBneDiff, Nat.reduceBeqDiff, Int.reduceToNat, Int.reduceLE, Int.reduceLT, Int.reduceEq, Int.reduceNe, Int.reduceNeg, Int.reduceAdd, Int.reduceSub, ↓reduceIte, reduceCtorEq, k_drawn_q, readsF, h1, e2, h4]
    | true => cases h3 : tntEs c args <;> cases h4 : oprEs c args <;> simp (maxSteps := 1000000) only [go_sem, acondK_bool, acB_merge, Nat.reduceLT, Nat.reduceLeDiff, Nat.reduceEqDiff, Nat.reduceAdd, Nat.reduceSub, Nat.reduceMul, Nat.reduceBEq, Nat.reduceBNe, Nat.reduceBneDiff, Nat.reduceBeqDiff, Int.reduceToNat, Int.reduceLE, Int.reduceLT, Int.reduceEq, Int.reduceNe, Int.reduceNeg, Int.reduceAdd, Int.reduceSub, ↓reduceIte, reduceCtorEq, k_drawn_q, readsF, h1, e1, e2, h3, h4]
end Go.Proofs.YtdcmimpjmngdlaaGreat
set_option linter.all false
namespace Go.Proofs.YtdcmimpjmngdlaaGreat
open Go.Abs
attribute [local congr] ite_congr
set_option maxRecDepth 10000
/-- the analysis in the heap: what is not tainted yet, the procedure -/
def anH (B : List AObj) (a b d : Dat) (u : List ABuf) (c : List Bytes) : AHeap := ⟨B ++ [.map (mb c), .cells [.d a, .d b, .d d, .mapr B.length]], u⟩
section
variable {B : List AObj} {a b d : Dat} {u : List ABuf} {c c' : List Bytes}
theorem an_obj : (anH B a b d u c).objs[B.length + 1]? = some (.cells [.d a, .d b, .d d, .mapr B.length]) := by simp [anH]
theorem an_map : (anH B a b d u c).objs[B.length]? = some (.map (mb c)) := by simp [anH]
theorem an_set : (⟨(anH B a b d u c).objs.set B.length (.map (mb c')), (anH B a b d u c).bufs⟩ : AHeap) = anH B a b d u c' := by simp [anH]
theorem an_has : HasAn (anH B a b d u c) (B.length + 1) B.length c := ⟨⟨a, b, d, an_obj⟩, an_map⟩
theorem an_fin {f : FuncId} (ho : C.own f = false) {v : AV} (h : v.still3 = true) : afinR C f (anH B a b d u c) (anH B a b d u c') (some v) = some (v.clean3, anH B a b d u c') :=
  afinR_len ho h (by simp [anH]) rfl
end
/-- what one statement says: is what it looks at tainted? -/
def drtS (c : List Bytes) (op : Int) (a b : E) : Bool := tntE c a || (decide (op = 6) && tntE c b)
def delS (c : List Bytes) (u : Bool) (op : Int) (name : Bytes) (a b : E) : List Bytes := if (!(name == []) && (u || drtS c op a b)) = true then SS.del c name else c
def undS (c : List Bytes) (u : Bool) (op : Int) (a b : E) : Bool := u || ((decide (op = 5) || decide (op = 6)) && drtS c op a b)
mutual
def flS : Stm → List Bytes → Bool → List Bytes
  | .mk op name max a b body els => fun c u => flL els (flL body (delS c u op name a b) (undS c u op a b)) (undS c u op a b)
def flL : List Stm → List Bytes → Bool → List Bytes
  | [] => fun c _ => c
  | x :: l => fun c u => flL l (flS x c u) u
end
theorem flL_snoc : ∀ (l : List Stm) (x : Stm) (c : List Bytes) (u : Bool), flL (l ++ [x]) c u = flS x (flL l c u) u
  | [], x, c, u => rfl
  | y :: l, x, c, u => by simp only [List.cons_append, flL]; exact flL_snoc l x _ u
def FlowGood (l : List Stm) : Prop := ∀ (B : List AObj) (a b d : Dat) (u : List ABuf) (c : List Bytes) (under : Bool),
  acl C 30 [.ptr (B.length + 1) 0, .d (.slice (l.map Stm.row)), .d (.bool under)] (anH B a b d u c) = some (.tuple [], anH B a b d u (flL l c under))
set_option maxHeartbeats 8000000 in
theorem flow_of (l : List Stm) (hlen : l.length ≤ 4194303) (hok : ∀ x ∈ l, x.Ok) (ih : ∀ x ∈ l, FlowGood x.body ∧ FlowGood x.els) : FlowGood l := by
  intro B ka kb kd u c under
  have fin := fun c c' => an_fin (B := B) (a := ka) (b := kb) (d := kd) (u := u) (c := c) (c' := c') (f := 30) (v := .tuple []) rfl rfl
  rw [k_call (c := C) (f := 30) rfl Tryz.func30 rfl (ok 30 (by kernel_rfl)) rfl Tryz.ntmps30 Tryz.results30 (by simp)]
  simp (maxSteps := 1000000) only [go_sem, acondK_bool, acB_merge, Nat.reduceLT, Nat.reduceLeDiff, Nat.reduceEqDiff, Nat.reduceAdd, Nat.reduceSub, Nat.reduceMul, Nat.reduceBEq, Nat.reduceBNe, Nat.reduceBneDiff, Nat.reduceBeqDiff, Int.reduceToNat, Int.reduceLE, Int.reduceLT, Int.reduceEq, Int.reduceNe, Int.reduceNeg, Int.reduceAdd, Int.reduceSub, ↓reduceIte, reduceCtorEq]
  refine loop_any (fun pre => [(12, .v (.d (.int .i64 (pre.length : Nat)))), (2, .v (.d (.bool under))), (0, .v (.ptr (B.length + 1) 0)), (10, .v (.d (.slice (l.map Stm.row)))), (11, .v (.d (.int .i64 (l.length : Nat))))])
    (fun pre => anH B ka kb kd u (flL pre c under)) (fun _ _ => some (.tuple [], anH B ka kb kd u (flL l c under))) l rfl rfl rfl ?_
  intro pre suf hl ih2
  have hb : pre.length < 9223372036854775807 := by rw [hl] at hlen; simp at hlen; omega
  cases suf with
  | nil =>
    rw [List.append_nil] at hl
    subst hl
    have e4 : decide ((l.length : Int) < (l.length : Int)) = false := by simp
    simp (maxSteps := 1000000) only [go_sem, acondK_bool, acB_merge, Nat.reduceLT, Nat.reduceLeDiff, Nat.reduceEqDiff, Nat.reduceAdd, Nat.reduceSub, Nat.reduceMul, Nat.reduceBEq, Nat.reduceBNe, Nat.reduceBneDiff, Nat.reduceBeqDiff, Int.reduceToNat, Int.reduceLE, Int.reduceLT, Int.reduceEq, Int.reduceNe, Int.reduceNeg, Int.reduceAdd, Int.reduceSub, ↓reduceIte, reduceCtorEq, e4, fin]
    done
  | cons x suf =>
    have hx : x ∈ l := by rw [hl]; simp
    have e2 := ih2 x suf rfl
    rw [List.length_append, List.length_cons, List.length_nil, flL_snoc] at e2
    have e3 : (l.map Stm.row)[pre.length]? = some (Stm.row x) := by rw [hl]; exact map_mid
    have e4 : decide ((pre.length : Int) < (l.length : Int)) = true := by rw [hl]; simp; omega
    generalize flL pre c under = c1 at *
    have t1 := taintedP x.a (Stm.Ok.a (hok x hx)) _ (an_has (B := B) (a := ka) (b := kb) (d := kd) (u := u) (c := c1))
    have t2 := taintedP x.b (Stm.Ok.b (hok x hx)) _ (an_has (B := B) (a := ka) (b := kb) (d := kd) (u := u) (c := c1))
    have b1 := (ih x hx).1 B ka kb kd u
    have b2 := (ih x hx).2 B ka kb kd u
    obtain ⟨op, name, max, a, b, body, els⟩ := x
    rw [Stm.row_eq] at e3
    have f1 : flS (.mk op name max a b body els) c1 under = flL els (flL body (delS c1 under op name a b) (undS c1 under op a b)) (undS c1 under op a b) := rfl
    rw [f1] at e2
    change acl C _ [_, E.av a] _ = _ at t1
    change acl C _ [_, E.av b] _ = _ at t2
    have g1 := b1 (delS c1 under op name a b) (undS c1 under op a b)
    have g2 := b2 (flL body (delS c1 under op name a b) (undS c1 under op a b)) (undS c1 under op a b)
    change acl C _ [_, .d (.slice (body.map Stm.row)), _] _ = some (_, anH B ka kb kd u (flL body _ _)) at g1
    change acl C _ [_, .d (.slice (els.map Stm.row)), _] _ = some (_, anH B ka kb kd u (flL els _ _)) at g2
    generalize hw : flL els (flL body (delS c1 under op name a b) (undS c1 under op a b)) (undS c1 under op a b) = w at *
    generalize hv : flL body (delS c1 under op name a b) (undS c1 under op a b) = v at *
    have q1 : delS c1 under op name a b = if (!(name == []) && (under || drtS c1 op a b)) = true then SS.del c1 name else c1 := rfl
    have q2 : undS c1 under op a b = (under || ((decide (op = 5) || decide (op = 6)) && drtS c1 op a b)) := rfl
    have q3 : drtS c1 op a b = (tntE c1 a || (decide (op = 6) && tntE c1 b)) := rfl
    rw [q1, q2, q3] at g1
    rw [q2, q3] at g2
    clear q1 q2 q3 hw hv f1
    simp (maxSteps := 1000000) only [go_sem, acB_merge, Nat.reduceLT, Nat.reduceLeDiff, Nat.reduceEqDiff, Nat.reduceAdd, Nat.reduceSub, Nat.reduceMul, Nat.reduceBEq, Nat.reduceBNe, Nat.reduceBneDiff, Nat.reduceBeqDiff, Int.reduceToNat, Int.reduceLE, Int.reduceLT, Int.reduceEq, Int.reduceNe, Int.reduceNeg, Int.reduceAdd, Int.reduceSub, ↓reduceIte, reduceCtorEq, k_drawn_t, e3, e4, t1, t2]
    refine wayK (fun h => ?_) (fun h => ?_)
    · have hX : (!(name == []) && (under || (tntE c1 a || (decide (op = 6) && tntE c1 b)))) = true := by rw [← ifnot]; exact h
      rw [hX, if_pos rfl] at g1
      simp (maxSteps := 1000000) only [go_sem, acondK_bool, acB_merge, Nat.reduceLT, Nat.reduceLeDiff, Nat.reduceEqDiff, Nat.reduceAdd, Nat.reduceSub, Nat.reduceMul, Nat.reduceBEq, Nat.reduceBNe, Nat.reduceBneDiff, Nat.reduceBeqDiff, Int.reduceToNat, Int.reduceLE, Int.reduceLT, Int.reduceEq, Int.reduceNe, Int.reduceNeg, Int.reduceAdd, Int.reduceSub, ↓reduceIte, reduceCtorEq, k_drawn_t, an_obj, an_map, adel_mb, an_set]
      refine Eq.trans (ctE_ok (by repeat (first | exact MLe.nil | apply MLe.qq | apply MLe.q | apply MLe.o | apply MLe.b | apply MLe.l)) (by kernel_rfl)) ?_
      simp (maxSteps := 1000000) only [go_sem, acondK_bool, acB_merge, Nat.reduceLT, Nat.reduceLeDiff, Nat.reduceEqDiff, Nat.reduceAdd, Nat.reduceSub, Nat.reduceMul, Nat.reduceBEq, Nat.reduceBNe, Nat.reduceBneDiff, Nat.reduceBeqDiff, Int.reduceToNat, Int.reduceLE, Int.reduceLT, Int.reduceEq, Int.reduceNe, Int.reduceNeg, Int.reduceAdd, Int.reduceSub, ↓reduceIte, reduceCtorEq, k_drawn_t, g1, g2, e2, wrap_nat hb]
    · have hX : (!(name == []) && (under || (tntE c1 a || (decide (op = 6) && tntE c1 b)))) = false := by rw [← ifnot]; exact h
      rw [hX, if_neg (by decide)] at g1
      simp (maxSteps := 1000000) only [go_sem, acondK_bool, acB_merge, Nat.reduceLT, Nat.reduceLeDiff, Nat.reduceEqDiff, Nat.reduceAdd, Nat.reduceSub, Nat.reduceMul, Nat.reduceBEq, Nat.reduceBNe, Nat.reduceBneDiff, Nat.reduceBeqDiff, Int.reduceToNat, Int.reduceLE, Int.reduceLT, Int.reduceEq, Int.reduceNe, Int.reduceNeg, Int.reduceAdd, Int.reduceSub, ↓reduceIte, reduceCtorEq, k_drawn_t, g1, g2, e2, wrap_nat hb]
end Go.Proofs.YtdcmimpjmngdlaaGreat
set_option linter.all false
namespace Go.Proofs.YtdcmimpjmngdlaaGreat
open Go.Abs
attribute [local congr] ite_congr
set_option maxRecDepth 10000
theorem get_frontF {α : Type} {l m : List α} {i : Nat} {x : α} (h : l[i]? = some x) : (l ++ m)[i]? = some x := by
  rw [List.getElem?_append_left (lt_of_get h)]
  exact h
theorem HasAn.more {A : AHeap} {i m : Nat} {c : List Bytes} (h : HasAn A i m c) (o : AObj) : HasAn ⟨A.objs ++ [o], A.bufs⟩ i m c := by
  obtain ⟨⟨x0, x1, x2, ho⟩, hm⟩ := h
  exact ⟨⟨x0, x1, x2, get_frontF ho⟩, get_frontF hm⟩
theorem indexFuncSG (l : List Stm) (hl : l.length ≤ 1099511627776) (f : FuncId) (fs cs : List AV) (q : Stm → Bool) (A : AHeap) (hq : ∀ x ∈ l, acl C f (fs ++ Stm.av x :: cs) A = some (.d (.bool (q x)), A)) :
    acl C 49 [.d (.slice (l.map Stm.row)), .func (.func f) fs cs] A = some (.d (.int .i64 (idxF q l 0)), A) := by
  rw [k_call (c := C) (f := 49) rfl Tryz.func49 rfl (ok 49 (by kernel_rfl)) rfl Tryz.ntmps49 Tryz.results49 (by simp)]
  simp (maxSteps := 1000000) +contextual only [go_sem, acondK_bool, acB_merge, Nat.reduceLT, Nat.reduceLeDiff, Nat.reduceEqDiff, Nat.reduceAdd, Nat.reduceSub, Nat.reduceMul, Nat.reduceBEq, Nat.reduceBNe, Nat.reduceBneDiff, Nat.reduceBeqDiff, Int.reduceToNat, Int.reduceLE, Int.reduceLT, Int.reduceEq, Int.reduceNe, Int.reduceNeg, Int.reduceAdd, Int.reduceSub, ↓reduceIte, reduceCtorEq]
  refine loop_list (fun i => [(7, .v (.d (.int .i64 (l.length : Nat)))), (1, .v (.func (.func f) fs cs)), (0, .v (.d (.slice (l.map Stm.row)))), (8, .v (.d (.int .i64 (i : Nat))))])
    (fun pre suf => some (.d (.int .i64 (idxF q suf pre.length)), A)) l rfl rfl ?_
  intro pre suf h ih
  have hb : pre.length < 9223372036854775807 := by rw [h] at hl; simp at hl; omega
  cases suf with
  | nil => rw [List.append_nil] at h; subst h; simp (maxSteps := 1000000) +contextual only [go_sem, acondK_bool, acB_merge, Nat.reduceLT, Nat.reduceLeDiff, Nat.reduceEqDiff, Nat.reduceAdd, Nat.reduceSub, Nat.reduceMul, Nat.reduceBEq, Nat.reduceBNe, Nat.reduceBneDiff, Nat.reduceBeqDiff, Int.reduceToNat, Int.reduceLE, Int.reduceLT, Int.reduceEq, Int.reduceNe, Int.reduceNeg, Int.reduceAdd, Int.reduceSub, ↓reduceIte, reduceCtorEq, idxF]
  | cons x suf =>
    have e1 := hq x (by rw [h]; simp)
    have e2 := ih x suf rfl
    rw [List.length_append, List.length_cons, List.length_nil] at e2
    have e3 : (l.map Stm.row)[pre.length]? = some (Stm.row x) := by rw [h]; exact map_mid
    have e4 : decide ((pre.length : Int) < (l.length : Int)) = true := by rw [h]; simp; omega
    rw [Stm.row_eq] at e3
    simp (maxSteps := 1000000) +contextual only [go_sem, acondK_bool, acB_merge, Nat.reduceLT, Nat.reduceLeDiff, Nat.reduceEqDiff, Nat.reduceAdd, Nat.reduceSub, Nat.reduceMul, Nat.reduceBEq, Nat.reduceBNe, Nat.reduceBneDiff, Nat.reduceBeqDiff, Int.reduceToNat, Int.reduceLE, Int.reduceLT, Int.reduceEq, Int.reduceNe, Int.reduceNeg, Int.reduceAdd, Int.reduceSub, ↓reduceIte, reduceCtorEq, e3, e4, e1, e2, wrap_nat hb, idxF]
theorem containsFuncSG (l : List Stm) (hl : l.length ≤ 1099511627776) (f : FuncId) (fs cs : List AV) (q : Stm → Bool) (A : AHeap) (hq : ∀ x ∈ l, acl C f (fs ++ Stm.av x :: cs) A = some (.d (.bool (q x)), A)) :
    acl C 31 [.d (.slice (l.map Stm.row)), .func (.func f) fs cs] A = some (.d (.bool (l.any q)), A) := by
  rw [k_call (c := C) (f := 31) rfl Tryz.func31 rfl (ok 31 (by kernel_rfl)) rfl Tryz.ntmps31 Tryz.results31 (by simp)]
  have e1 := indexFuncSG l hl f fs cs q A hq
  simp (maxSteps := 1000000) +contextual only [go_sem, acondK_bool, acB_merge, Nat.reduceLT, Nat.reduceLeDiff, Nat.reduceEqDiff, Nat.reduceAdd, Nat.reduceSub, Nat.reduceMul, Nat.reduceBEq, Nat.reduceBNe, Nat.reduceBneDiff, Nat.reduceBeqDiff, Int.reduceToNat, Int.reduceLE, Int.reduceLT, Int.reduceEq, Int.reduceNe, Int.reduceNeg, Int.reduceAdd, Int.reduceSub, ↓reduceIte, reduceCtorEq, e1, idxF_nonneg]
mutual
def keyS (c : List Bytes) : Stm → Bool
  | .mk op name max a b body els => ((decide (op = 3) || decide (op = 4)) && tntE c a) || (oprE c a || (oprE c b || (keyL c body || keyL c els)))
def keyL (c : List Bytes) : List Stm → Bool
  | [] => false
  | x :: l => keyS c x || keyL c l
end
theorem keyL_any (c : List Bytes) : ∀ l, keyL c l = l.any (keyS c)
  | [] => rfl
  | x :: l => by simp [keyL, keyL_any c l]
def KeyGood (l : List Stm) : Prop := ∀ (i m : Nat) (c : List Bytes) (A : AHeap), HasAn A i m c → acl C 20 [.ptr i 0, .d (.slice (l.map Stm.row))] A = some (.d (.bool (keyL c l)), A)
set_option maxHeartbeats 8000000 in
theorem key_of (l : List Stm) (hlen : l.length ≤ 4194303) (hok : ∀ x ∈ l, x.Ok) (ih : ∀ x ∈ l, KeyGood x.body ∧ KeyGood x.els) : KeyGood l := by
  intro i m c A hA
  have hA2 := hA.more (.cells [.ptr i 0])
  have e1 := containsFuncSG l (by omega) 32 [] [.ptr A.objs.length 0] (keyS c) ⟨A.objs ++ [.cells [.ptr i 0]], A.bufs⟩ (by
    intro x hx
    have hid : (A.objs ++ [AObj.cells [.ptr i 0]])[A.objs.length]? = some (.cells [.ptr i 0]) := by simp
    have t1 := taintedP x.a (Stm.Ok.a (hok x hx)) _ hA2
    have o1 := operandP x.a (Stm.Ok.a (hok x hx)) _ hA2
    have o2 := operandP x.b (Stm.Ok.b (hok x hx)) _ hA2
    have b1 := (ih x hx).1 i m c _ hA2
    have b2 := (ih x hx).2 i m c _ hA2
    obtain ⟨op, name, max, a, b, body, els⟩ := x
    unfold keyS
    change acl C _ [_, E.av a] _ = _ at t1
    change acl C _ [_, E.av a] _ = _ at o1
    change acl C _ [_, E.av b] _ = _ at o2
    change acl C _ [_, .d (.slice (body.map Stm.row))] _ = some (.d (.bool (keyL c body)), _) at b1
    change acl C _ [_, .d (.slice (els.map Stm.row))] _ = some (.d (.bool (keyL c els)), _) at b2
    show acl C 32 [Stm.av (.mk op name max a b body els), .ptr A.objs.length 0] _ = _
    rw [k_call (c := C) (f := 32) rfl Tryz.func32 rfl (ok 32 (by kernel_rfl)) rfl Tryz.ntmps32 Tryz.results32 (by simp)]
    simp (maxSteps := 1000000) only [go_sem, acondK_bool, acB_merge, Nat.reduceLT, Nat.reduceLeDiff, Nat.reduceEqDiff, Nat.reduceAdd, Nat.reduceSub, Nat.reduceMul, Nat.reduceBEq, Nat.reduceBNe, Nat.reduceBneDiff, Nat.reduceBeqDiff, Int.reduceToNat, Int.reduceLE, Int.reduceLT, Int.reduceEq, Int.reduceNe, Int.reduceNeg, Int.reduceAdd, Int.reduceSub, ↓reduceIte, reduceCtorEq, k_drawn_q, t1, o1, o2, b1, b2]
    refine leafB ?_
    simp only [Bool.or_assoc])
  rw [← keyL_any] at e1
  rw [k_call (c := C) (f := 20) rfl Tryz.func20 rfl (ok 20 (by kernel_rfl)) rfl Tryz.ntmps20 Tryz.results20 (by simp)]
  simp (maxSteps := 1000000) only [go_sem, acondK_bool, acB_merge, Nat.reduceLT, Nat.reduceLeDiff, Nat.reduceEqDiff, Nat.reduceAdd, Nat.reduceSub, Nat.reduceMul, Nat.reduceBEq, Nat.reduceBNe, Nat.reduceBneDiff, Nat.reduceBeqDiff, Int.reduceToNat, Int.reduceLE, Int.reduceLT, Int.reduceEq, Int.reduceNe, Int.reduceNeg, Int.reduceAdd, Int.reduceSub, ↓reduceIte, reduceCtorEq, k_drawn_q, e1]
mutual
def brnS (c : List Bytes) : Stm → Bool
  | .mk op name max a b body els => (decide (op = 5) && tntE c a) || ((decide (op = 6) && (tntE c a || tntE c b)) || (brnL c body || brnL c els))
def brnL (c : List Bytes) : List Stm → Bool
  | [] => false
  | x :: l => brnS c x || brnL c l
end
theorem brnL_any (c : List Bytes) : ∀ l, brnL c l = l.any (brnS c)
  | [] => rfl
  | x :: l => by simp [brnL, brnL_any c l]
def BrnGood (l : List Stm) : Prop := ∀ (i m : Nat) (c : List Bytes) (A : AHeap), HasAn A i m c → acl C 26 [.ptr i 0, .d (.slice (l.map Stm.row))] A = some (.d (.bool (brnL c l)), A)
set_option maxHeartbeats 8000000 in
theorem brn_of (l : List Stm) (hlen : l.length ≤ 4194303) (hok : ∀ x ∈ l, x.Ok) (ih : ∀ x ∈ l, BrnGood x.body ∧ BrnGood x.els) : BrnGood l := by
  intro i m c A hA
  have hA2 := hA.more (.cells [.ptr i 0])
  have e1 := containsFuncSG l (by omega) 42 [] [.ptr A.objs.length 0] (brnS c) ⟨A.objs ++ [.cells [.ptr i 0]], A.bufs⟩ (by
    intro x hx
    have t1 := taintedP x.a (Stm.Ok.a (hok x hx)) _ hA2
    have t2 := taintedP x.b (Stm.Ok.b (hok x hx)) _ hA2
    have b1 := (ih x hx).1 i m c _ hA2
    have b2 := (ih x hx).2 i m c _ hA2
    obtain ⟨op, name, max, a, b, body, els⟩ := x
    unfold brnS
    change acl C _ [_, E.av a] _ = _ at t1
    change acl C _ [_, E.av b] _ = _ at t2
    change acl C _ [_, .d (.slice (body.map Stm.row))] _ = some (.d (.bool (brnL c body)), _) at b1
    change acl C _ [_, .d (.slice (els.map Stm.row))] _ = some (.d (.bool (brnL c els)), _) at b2
    show acl C 42 [Stm.av (.mk op name max a b body els), .ptr A.objs.length 0] _ = _
    rw [k_call (c := C) (f := 42) rfl Tryz.func42 rfl (ok 42 (by kernel_rfl)) rfl Tryz.ntmps42 Tryz.results42 (by simp)]
    simp (maxSteps := 1000000) only [go_sem, acondK_bool, acB_merge, Nat.reduceLT, Nat.reduceLeDiff, Nat.reduceEqDiff, Nat.reduceAdd, Nat.reduceSub, Nat.reduceMul, Nat.reduceBEq, Nat.reduceBNe, Nat.reduceBneDiff, Nat.reduceBeqDiff, Int.reduceToNat, Int.reduceLE, Int.reduceLT, Int.reduceEq, Int.reduceNe, Int.reduceNeg, Int.reduceAdd, Int.reduceSub, ↓reduceIte, reduceCtorEq, k_drawn_q, t1, t2, b1, b2]
    refine leafB ?_
    simp only [Bool.or_assoc])
  rw [← brnL_any] at e1
  rw [k_call (c := C) (f := 26) rfl Tryz.func26 rfl (ok 26 (by kernel_rfl)) rfl Tryz.ntmps26 Tryz.results26 (by simp)]
  simp (maxSteps := 1000000) only [go_sem, acondK_bool, acB_merge, Nat.reduceLT, Nat.reduceLeDiff, Nat.reduceEqDiff, Nat.reduceAdd, Nat.reduceSub, Nat.reduceMul, Nat.reduceBEq, Nat.reduceBNe, Nat.reduceBneDiff, Nat.reduceBeqDiff, Int.reduceToNat, Int.reduceLE, Int.reduceLT, Int.reduceEq, Int.reduceNe, Int.reduceNeg, Int.reduceAdd, Int.reduceSub, ↓reduceIte, reduceCtorEq, k_drawn_q, e1]
theorem flow_in : ∀ x : Stm, x.Ok → FlowGood x.body ∧ FlowGood x.els := by
  intro x
  induction x using Stm.ind with
  | h op name max a b body els ihb ihe =>
    intro hok
    obtain ⟨f1, f2⟩ := stmFit2 hok
    exact ⟨flow_of body f1 (Stm.Ok.bodyOk hok) (fun y hy => ihb y hy (Stm.Ok.bodyOk hok y hy)), flow_of els f2 (Stm.Ok.elsOk hok) (fun y hy => ihe y hy (Stm.Ok.elsOk hok y hy))⟩
theorem flowP (p : Pr) (hp : p.Ok) : FlowGood p.body := flow_of p.body hp.bfit hp.body fun x hx => flow_in x (hp.body x hx)
theorem key_in : ∀ x : Stm, x.Ok → KeyGood x.body ∧ KeyGood x.els := by
  intro x
  induction x using Stm.ind with
  | h op name max a b body els ihb ihe =>
    intro hok
    obtain ⟨f1, f2⟩ := stmFit2 hok
    exact ⟨key_of body f1 (Stm.Ok.bodyOk hok) (fun y hy => ihb y hy (Stm.Ok.bodyOk hok y hy)), key_of els f2 (Stm.Ok.elsOk hok) (fun y hy => ihe y hy (Stm.Ok.elsOk hok y hy))⟩
theorem keyP (p : Pr) (hp : p.Ok) : KeyGood p.body := key_of p.body hp.bfit hp.body fun x hx => key_in x (hp.body x hx)
theorem brn_in : ∀ x : Stm, x.Ok → BrnGood x.body ∧ BrnGood x.els := by
  intro x
  induction x using Stm.ind with
  | h op name max a b body els ihb ihe =>
    intro hok
    obtain ⟨f1, f2⟩ := stmFit2 hok
    exact ⟨brn_of body f1 (Stm.Ok.bodyOk hok) (fun y hy => ihb y hy (Stm.Ok.bodyOk hok y hy)), brn_of els f2 (Stm.Ok.elsOk hok) (fun y hy => ihe y hy (Stm.Ok.elsOk hok y hy))⟩
theorem brnP (p : Pr) (hp : p.Ok) : BrnGood p.body := brn_of p.body hp.bfit hp.body fun x hx => brn_in x (hp.body x hx)
end Go.Proofs.YtdcmimpjmngdlaaGreat
