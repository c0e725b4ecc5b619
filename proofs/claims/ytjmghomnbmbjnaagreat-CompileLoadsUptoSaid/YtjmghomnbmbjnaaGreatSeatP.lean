/- Equality of procedures, on both sides. -/
import Derived.Test.YtjmghomnbmbjnaaGreatSeatD
import Derived.Test.YtjmghomnbmbjnaaGreatSeatE
set_option linter.unusedVariables false
set_option linter.unusedSimpArgs false
set_option linter.all false
set_option linter.deprecated false
set_option linter.all false
namespace Go.Proofs.YtjmghomnbmbjnaaGreat
open Go.Abs
attribute [local congr] ite_congr
set_option maxRecDepth 10000
mutual
def eqS : Stm → Stm → Bool
  | .mk op name max a b body els, y => decide (op = y.op) && (name == y.name) && decide (max = y.max) && eqE a y.a && eqE b y.b && (decide ((body.length : Int) = (y.body.length : Int)) && eqSs body y.body) && (decide ((els.length : Int) = (y.els.length : Int)) && eqSs els y.els)
def eqSs : List Stm → List Stm → Bool
  | [], _ => true
  | x :: l, y :: m => eqS x y && eqSs l m
  | _ :: _, [] => true
end
end Go.Proofs.YtjmghomnbmbjnaaGreat
set_option linter.all false
namespace Go.Proofs.YtjmghomnbmbjnaaGreat
open Go.Abs
attribute [local congr] ite_congr
set_option maxRecDepth 10000
mutual
theorem eqE_iff : ∀ x y, eqE x y = true ↔ x = y
  | .mk op n s args, .mk op' n' s' args' => by
    simp only [eqE, Bool.and_eq_true, decide_eq_true_eq, beq_iff_eq, E.mk.injEq]
    constructor
    · rintro ⟨⟨⟨⟨h1, h2⟩, h3⟩, h4⟩, h5⟩
      exact ⟨h1, h2, h3, (eqEs_iff args args' (Int.ofNat_inj.1 h4)).1 h5⟩
    · rintro ⟨rfl, rfl, rfl, rfl⟩
      exact ⟨⟨⟨⟨rfl, rfl⟩, rfl⟩, rfl⟩, (eqEs_iff args args rfl).2 rfl⟩
theorem eqEs_iff : ∀ (l m : List E), l.length = m.length → (eqEs l m = true ↔ l = m)
  | [], [], _ => by simp [eqEs]
  | [], _ :: _, h => by simp at h
  | _ :: _, [], h => by simp at h
  | x :: l, y :: m, h => by
    simp only [eqEs, Bool.and_eq_true, List.cons.injEq]
    rw [eqE_iff x y, eqEs_iff l m (by simpa using h)]
end
mutual
theorem eqS_iff : ∀ x y, eqS x y = true ↔ x = y
  | .mk op name max a b body els, .mk op' name' max' a' b' body' els' => by
    simp only [eqS, Bool.and_eq_true, decide_eq_true_eq, beq_iff_eq, Stm.mk.injEq, eqE_iff]
    constructor
    · rintro ⟨⟨⟨⟨⟨⟨h1, h2⟩, h3⟩, h4⟩, h5⟩, h6, h7⟩, h8, h9⟩
      exact ⟨h1, h2, h3, h4, h5, (eqSs_iff body body' (Int.ofNat_inj.1 h6)).1 h7, (eqSs_iff els els' (Int.ofNat_inj.1 h8)).1 h9⟩
    · rintro ⟨rfl, rfl, rfl, rfl, rfl, rfl, rfl⟩
      exact ⟨⟨⟨⟨⟨⟨rfl, rfl⟩, rfl⟩, rfl⟩, rfl⟩, rfl, (eqSs_iff body body rfl).2 rfl⟩, rfl, (eqSs_iff els els rfl).2 rfl⟩
theorem eqSs_iff : ∀ (l m : List Stm), l.length = m.length → (eqSs l m = true ↔ l = m)
  | [], [], _ => by simp [eqSs]
  | [], _ :: _, h => by simp at h
  | _ :: _, [], h => by simp at h
  | x :: l, y :: m, h => by
    simp only [eqSs, Bool.and_eq_true, List.cons.injEq]
    rw [eqS_iff x y, eqSs_iff l m (by simpa using h)]
end
end Go.Proofs.YtjmghomnbmbjnaaGreat
set_option linter.all false
namespace Go.Proofs.YtjmghomnbmbjnaaGreat
open Go.Abs
attribute [local congr] ite_congr
set_option maxRecDepth 10000
def renN (a b s : Bytes) : Bytes := if (s == a) = true then b else s
mutual
def renE (a b : Bytes) : E → E
  | .mk op n s args => .mk op n (if decide (op = 3) = true then renN a b s else s) (renEs a b args)
def renEs (a b : Bytes) : List E → List E
  | [] => []
  | x :: l => renE a b x :: renEs a b l
end
mutual
def renS (a b : Bytes) : Stm → Stm
  | .mk op name max x y body els => .mk op (renN a b name) max (renE a b x) (renE a b y) (renSs a b body) (renSs a b els)
def renSs (a b : Bytes) : List Stm → List Stm
  | [] => []
  | x :: l => renS a b x :: renSs a b l
end
end Go.Proofs.YtjmghomnbmbjnaaGreat
set_option linter.all false
namespace Go.Proofs.YtjmghomnbmbjnaaGreat
open Go.Abs
attribute [local congr] ite_congr
set_option maxRecDepth 10000
end Go.Proofs.YtjmghomnbmbjnaaGreat
set_option linter.all false
namespace Go.Proofs.YtjmghomnbmbjnaaGreat
open Go.Abs
attribute [local congr] ite_congr
set_option maxRecDepth 10000
def menE (w : Bytes) : E → Bool
  | .mk op n s args => decide (op = 3) && (s == w) || menEs w args
where menEs (w : Bytes) : List E → Bool
  | [] => false
  | x :: l => menE w x || menEs w l
end Go.Proofs.YtjmghomnbmbjnaaGreat
set_option linter.all false
namespace Go.Proofs.YtjmghomnbmbjnaaGreat
open Go.Abs
attribute [local congr] ite_congr
set_option maxRecDepth 10000
theorem indexS (l : List Bytes) (hl : l.length ≤ 1099511627776) (w : Bytes) (A : AHeap) :
    acl C 46 [.d (.slice (l.map sRow)), .d (.str w)] A = some (.d (.int .i64 (idxF (fun s => w == s) l 0)), A) := by
  rw [k_call (c := C) (f := 46) rfl Tryz.func46 rfl (ok 46 (by kernel_rfl)) rfl Tryz.ntmps46 Tryz.results46 (by simp)]
  simp (maxSteps := 1000000) +contextual only [go_sem, acondK_bool, acB_merge, Nat.reduceLT, Nat.reduceLeDiff, Nat.reduceEqDiff, Nat.reduceAdd, Nat.reduceSub, Nat.reduceMul, Nat.reduceBEq, Nat.reduceBNe, Nat.reduceBneDiff, Nat.reduceBeqDiff, Int.reduceToNat, Int.reduceLE, Int.reduceLT, Int.reduceEq, Int.reduceNe, Int.reduceNeg, Int.reduceAdd, Int.reduceSub, ↓reduceIte, reduceCtorEq]
  refine loop_list (fun i => [(7, .v (.d (.int .i64 (l.length : Nat)))), (1, .v (.d (.str w))), (0, .v (.d (.slice (l.map sRow)))), (8, .v (.d (.int .i64 (i : Nat))))])
    (fun pre suf => some (.d (.int .i64 (idxF (fun s => w == s) suf pre.length)), A)) l rfl rfl ?_
  intro pre suf h ih
  have hb : pre.length < 9223372036854775807 := by rw [h] at hl; simp at hl; omega
  cases suf with
  | nil => rw [List.append_nil] at h; subst h; simp (maxSteps := 1000000) +contextual only [go_sem, acondK_bool, acB_merge, Nat.reduceLT, Nat.reduceLeDiff, Nat.reduceEqDiff, Nat.reduceAdd, Nat.reduceSub, Nat.reduceMul, Nat.reduceBEq, Nat.reduceBNe, Nat.reduceBneDiff, Nat.reduceBeqDiff, Int.reduceToNat, Int.reduceLE, Int.reduceLT, Int.reduceEq, Int.reduceNe, Int.reduceNeg, Int.reduceAdd, Int.reduceSub, ↓reduceIte, reduceCtorEq, idxF]
  | cons x suf =>
    have e2 := ih x suf rfl
    rw [List.length_append, List.length_cons, List.length_nil] at e2
    have e3 : (l.map sRow)[pre.length]? = some [.str x] := by rw [h]; exact map_mid
    have e4 : decide ((pre.length : Int) < (l.length : Int)) = true := by rw [h]; simp; omega
    simp (maxSteps := 1000000) +contextual only [go_sem, acondK_bool, acB_merge, Nat.reduceLT, Nat.reduceLeDiff, Nat.reduceEqDiff, Nat.reduceAdd, Nat.reduceSub, Nat.reduceMul, Nat.reduceBEq, Nat.reduceBNe, Nat.reduceBneDiff, Nat.reduceBeqDiff, Int.reduceToNat, Int.reduceLE, Int.reduceLT, Int.reduceEq, Int.reduceNe, Int.reduceNeg, Int.reduceAdd, Int.reduceSub, ↓reduceIte, reduceCtorEq, e3, e4, e2, wrap_nat hb, idxF]
def hasN (l : List Bytes) (w : Bytes) : Bool := l.any fun s => w == s
theorem containsS (l : List Bytes) (hl : l.length ≤ 1099511627776) (w : Bytes) (A : AHeap) : acl C 25 [.d (.slice (l.map sRow)), .d (.str w)] A = some (.d (.bool (hasN l w)), A) := by
  rw [k_call (c := C) (f := 25) rfl Tryz.func25 rfl (ok 25 (by kernel_rfl)) rfl Tryz.ntmps25 Tryz.results25 (by simp)]
  have e1 := indexS l hl w A
  simp (maxSteps := 1000000) +contextual only [go_sem, acondK_bool, acB_merge, Nat.reduceLT, Nat.reduceLeDiff, Nat.reduceEqDiff, Nat.reduceAdd, Nat.reduceSub, Nat.reduceMul, Nat.reduceBEq, Nat.reduceBNe, Nat.reduceBneDiff, Nat.reduceBeqDiff, Int.reduceToNat, Int.reduceLE, Int.reduceLT, Int.reduceEq, Int.reduceNe, Int.reduceNeg, Int.reduceAdd, Int.reduceSub, ↓reduceIte, reduceCtorEq, e1, idxF_nonneg, hasN]
end Go.Proofs.YtjmghomnbmbjnaaGreat
