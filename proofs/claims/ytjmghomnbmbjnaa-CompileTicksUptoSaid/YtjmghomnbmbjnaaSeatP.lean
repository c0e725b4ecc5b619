/- Equality of procedures, on both sides. -/
import Derived.Test.YtjmghomnbmbjnaaSeatD
import Derived.Test.YtjmghomnbmbjnaaSeatE
set_option linter.unusedVariables false
set_option linter.unusedSimpArgs false
set_option linter.all false
set_option linter.deprecated false
set_option linter.all false
namespace Go.Proofs.Ytjmghomnbmbjnaa
open Go.Abs
attribute [local congr] ite_congr
set_option maxRecDepth 10000
def eqL {α : Type} (q : α → α → Bool) : List α → List α → Bool
  | [], _ => true
  | x :: l, y :: m => q x y && eqL q l m
  | _ :: _, [] => true
theorem eqEs_L : ∀ l m, eqEs l m = eqL eqE l m
  | [], _ => by simp [eqEs, eqL]
  | x :: l, y :: m => by simp [eqEs, eqL, eqEs_L l m]
  | _ :: _, [] => by simp [eqEs, eqL]
mutual
def eqS : Stm → Stm → Bool
  | .mk op name max a b body els, y => decide (op = y.op) && (name == y.name) && decide (max = y.max) && eqE a y.a && eqE b y.b && (decide ((body.length : Int) = (y.body.length : Int)) && eqSs body y.body) && (decide ((els.length : Int) = (y.els.length : Int)) && eqSs els y.els)
def eqSs : List Stm → List Stm → Bool
  | [], _ => true
  | x :: l, y :: m => eqS x y && eqSs l m
  | _ :: _, [] => true
end
theorem eqSs_L : ∀ l m, eqSs l m = eqL eqS l m
  | [], _ => by simp [eqSs, eqL]
  | x :: l, y :: m => by simp [eqSs, eqL, eqSs_L l m]
  | _ :: _, [] => by simp [eqSs, eqL]
theorem stmParts {x : Stm} (h : x.Ok) : x.a.Ok ∧ x.b.Ok ∧ x.body.length ≤ 1099511627776 ∧ x.els.length ≤ 1099511627776 ∧ (∀ y ∈ x.body, y.Ok) ∧ (∀ y ∈ x.els, y.Ok) := by
  cases h; exact ⟨by assumption, by assumption, by assumption, by assumption, by assumption, by assumption⟩
/-- the lists are equal, field by field -/
def eqPm (x y : Pm) : Bool := x.name == y.name && decide (x.type = y.type)
end Go.Proofs.Ytjmghomnbmbjnaa
set_option linter.all false
namespace Go.Proofs.Ytjmghomnbmbjnaa
open Go.Abs
attribute [local congr] ite_congr
set_option maxRecDepth 10000
/-- two procedures are equal, field by field -/
def eqP (p q : Pr) : Bool := p.name == q.name && (decide ((p.params.length : Int) = (q.params.length : Int)) && eqL eqPm p.params q.params) && (decide ((p.body.length : Int) = (q.body.length : Int)) && eqSs p.body q.body)
mutual
theorem eqE_iff : ∀ x y, eqE x y = true ↔ x = y
  | .mk op n s args, .mk op' n' s' args' => by
    simp only [eqE, Bool.and_eq_true, decide_eq_true_eq, beq_iff_eq, E.mk.injEq]
    constructor
    · rintro ⟨⟨⟨⟨h1, h2⟩, h3⟩, h4⟩, h5⟩
      exact ⟨h1, h2, h3, (eqEs_iff args args' (Int.ofNat_inj.1 h4)).1 h5⟩
    · rintro ⟨rfl, rfl, rfl, rfl⟩
      exact ⟨⟨⟨⟨rfl, rfl⟩, rfl⟩, rfl⟩, (eqEs_iff args args rfl).2 rfl⟩
theorem eqEs_iff : ∀ (l m : List E), l.length = m.length → (eqEs l m = true ↔ l = m)
  | [], [], _ => by simp [eqEs]
  | [], _ :: _, h => by simp at h
  | _ :: _, [], h => by simp at h
  | x :: l, y :: m, h => by
    simp only [eqEs, Bool.and_eq_true, List.cons.injEq]
    rw [eqE_iff x y, eqEs_iff l m (by simpa using h)]
end
mutual
theorem eqS_iff : ∀ x y, eqS x y = true ↔ x = y
  | .mk op name max a b body els, .mk op' name' max' a' b' body' els' => by
    simp only [eqS, Bool.and_eq_true, decide_eq_true_eq, beq_iff_eq, Stm.mk.injEq, eqE_iff]
    constructor
    · rintro ⟨⟨⟨⟨⟨⟨h1, h2⟩, h3⟩, h4⟩, h5⟩, h6, h7⟩, h8, h9⟩
      exact ⟨h1, h2, h3, h4, h5, (eqSs_iff body body' (Int.ofNat_inj.1 h6)).1 h7, (eqSs_iff els els' (Int.ofNat_inj.1 h8)).1 h9⟩
    · rintro ⟨rfl, rfl, rfl, rfl, rfl, rfl, rfl⟩
      exact ⟨⟨⟨⟨⟨⟨rfl, rfl⟩, rfl⟩, rfl⟩, rfl⟩, rfl, (eqSs_iff body body rfl).2 rfl⟩, rfl, (eqSs_iff els els rfl).2 rfl⟩
theorem eqSs_iff : ∀ (l m : List Stm), l.length = m.length → (eqSs l m = true ↔ l = m)
  | [], [], _ => by simp [eqSs]
  | [], _ :: _, h => by simp at h
  | _ :: _, [], h => by simp at h
  | x :: l, y :: m, h => by
    simp only [eqSs, Bool.and_eq_true, List.cons.injEq]
    rw [eqS_iff x y, eqSs_iff l m (by simpa using h)]
end
theorem eqPm_iff (x y : Pm) : eqPm x y = true ↔ x = y := by
  cases x; cases y
  simp [eqPm]
theorem eqL_iff {α : Type} {q : α → α → Bool} (hq : ∀ x y, q x y = true ↔ x = y) : ∀ (l m : List α), l.length = m.length → (eqL q l m = true ↔ l = m)
  | [], [], _ => by simp [eqL]
  | [], _ :: _, h => by simp at h
  | _ :: _, [], h => by simp at h
  | x :: l, y :: m, h => by
    simp only [eqL, Bool.and_eq_true, List.cons.injEq]
    rw [hq x y, eqL_iff hq l m (by simpa using h)]
theorem eqP_iff (p q : Pr) : eqP p q = true ↔ p = q := by
  obtain ⟨n, ps, b⟩ := p
  obtain ⟨n', ps', b'⟩ := q
  simp only [eqP, Bool.and_eq_true, decide_eq_true_eq, beq_iff_eq, Pr.mk.injEq]
  constructor
  · rintro ⟨⟨h1, h2, h3⟩, h4, h5⟩
    exact ⟨h1, (eqL_iff eqPm_iff ps ps' (by omega)).1 h3, (eqSs_iff b b' (by omega)).1 h5⟩
  · rintro ⟨rfl, rfl, rfl⟩
    exact ⟨⟨rfl, rfl, (eqL_iff eqPm_iff ps ps rfl).2 rfl⟩, rfl, (eqSs_iff b b rfl).2 rfl⟩
theorem eqP_refl (p : Pr) : eqP p p = true := (eqP_iff p p).2 rfl
theorem eqP_symm (p q : Pr) : eqP q p = eqP p q := by
  rw [Bool.eq_iff_iff, eqP_iff, eqP_iff]
  exact eq_comm
end Go.Proofs.Ytjmghomnbmbjnaa
set_option linter.all false
namespace Go.Proofs.Ytjmghomnbmbjnaa
open Go.Abs
attribute [local congr] ite_congr
set_option maxRecDepth 10000
def renN (a b s : Bytes) : Bytes := if (s == a) = true then b else s
mutual
def renE (a b : Bytes) : E → E
  | .mk op n s args => .mk op n (if decide (op = 3) = true then renN a b s else s) (renEs a b args)
def renEs (a b : Bytes) : List E → List E
  | [] => []
  | x :: l => renE a b x :: renEs a b l
end
mutual
def renS (a b : Bytes) : Stm → Stm
  | .mk op name max x y body els => .mk op (renN a b name) max (renE a b x) (renE a b y) (renSs a b body) (renSs a b els)
def renSs (a b : Bytes) : List Stm → List Stm
  | [] => []
  | x :: l => renS a b x :: renSs a b l
end
theorem renEs_map (a b : Bytes) : ∀ l, renEs a b l = l.map (renE a b)
  | [] => rfl
  | x :: l => by simp [renEs, renEs_map a b l]
theorem renSs_map (a b : Bytes) : ∀ l, renSs a b l = l.map (renS a b)
  | [] => rfl
  | x :: l => by simp [renSs, renSs_map a b l]
end Go.Proofs.Ytjmghomnbmbjnaa
set_option linter.all false
namespace Go.Proofs.Ytjmghomnbmbjnaa
open Go.Abs
attribute [local congr] ite_congr
set_option maxRecDepth 10000
noncomputable abbrev grT (A : AHeap) (l : List Stm) : AV × AHeap := agrow A 48 13 (l.map Stm.row)
theorem renN_nil {a b : Bytes} (ha : a ≠ []) : renN a b [] = [] := by
  unfold renN
  rw [if_neg]
  simp
  exact fun h => ha h
theorem stmFit {x : Stm} (h : x.Ok) : x.body.length ≤ 4194303 ∧ x.els.length ≤ 4194303 := by
  cases h; exact ⟨by assumption, by assumption⟩
theorem renS_eta (a b : Bytes) (x : Stm) : renS a b x = .mk x.op (renN a b x.name) x.max (renE a b x.a) (renE a b x.b) (renSs a b x.body) (renSs a b x.els) := by cases x; rfl
end Go.Proofs.Ytjmghomnbmbjnaa
set_option linter.all false
namespace Go.Proofs.Ytjmghomnbmbjnaa
open Go.Abs
attribute [local congr] ite_congr
set_option maxRecDepth 10000
/-- does a variable occur in an expression? -/
def menE (w : Bytes) : E → Bool
  | .mk op n s args => decide (op = 3) && (s == w) || menEs w args
where menEs (w : Bytes) : List E → Bool
  | [] => false
  | x :: l => menE w x || menEs w l
theorem menEs_any (w : Bytes) : ∀ l, menE.menEs w l = l.any (menE w)
  | [] => rfl
  | x :: l => by simp [menE.menEs, menEs_any w l]
end Go.Proofs.Ytjmghomnbmbjnaa
set_option linter.all false
namespace Go.Proofs.Ytjmghomnbmbjnaa
open Go.Abs
attribute [local congr] ite_congr
set_option maxRecDepth 10000
theorem get_front {α : Type} {l m : List α} {i : Nat} {x : α} (h : l[i]? = some x) : (l ++ m)[i]? = some x := by
  rw [List.getElem?_append_left (lt_of_get h)]
  exact h
theorem indexS (l : List Bytes) (hl : l.length ≤ 1099511627776) (w : Bytes) (A : AHeap) :
    acl C 51 [.d (.slice (l.map sRow)), .d (.str w)] A = some (.d (.int .i64 (idxF (fun s => w == s) l 0)), A) := by
  rw [k_call (c := C) (f := 51) rfl Try.func51 rfl (ok 51 (by kernel_rfl)) rfl Try.ntmps51 Try.results51 (by simp)]
  simp (maxSteps := 1000000) +contextual only [go_sem, acondK_bool, acB_merge, Nat.reduceLT, Nat.reduceLeDiff, Nat.reduceEqDiff, Nat.reduceAdd, Nat.reduceSub, Nat.reduceMul, Nat.reduceBEq, Nat.reduceBNe, Nat.reduceBneDiff, Nat.reduceBeqDiff, Int.reduceToNat, Int.reduceLE, Int.reduceLT, Int.reduceEq, Int.reduceNe, Int.reduceNeg, Int.reduceAdd, Int.reduceSub, ↓reduceIte, reduceCtorEq]
  refine loop_list (fun i => [(7, .v (.d (.int .i64 (l.length : Nat)))), (1, .v (.d (.str w))), (0, .v (.d (.slice (l.map sRow)))), (8, .v (.d (.int .i64 (i : Nat))))])
    (fun pre suf => some (.d (.int .i64 (idxF (fun s => w == s) suf pre.length)), A)) l rfl rfl ?_
  intro pre suf h ih
  have hb : pre.length < 9223372036854775807 := by rw [h] at hl; simp at hl; omega
  cases suf with
  | nil => rw [List.append_nil] at h; subst h; simp (maxSteps := 1000000) +contextual only [go_sem, acondK_bool, acB_merge, Nat.reduceLT, Nat.reduceLeDiff, Nat.reduceEqDiff, Nat.reduceAdd, Nat.reduceSub, Nat.reduceMul, Nat.reduceBEq, Nat.reduceBNe, Nat.reduceBneDiff, Nat.reduceBeqDiff, Int.reduceToNat, Int.reduceLE, Int.reduceLT, Int.reduceEq, Int.reduceNe, Int.reduceNeg, Int.reduceAdd, Int.reduceSub, ↓reduceIte, reduceCtorEq, idxF]
  | cons x suf =>
    have e2 := ih x suf rfl
    rw [List.length_append, List.length_cons, List.length_nil] at e2
    have e3 : (l.map sRow)[pre.length]? = some [.str x] := by rw [h]; exact map_mid
    have e4 : decide ((pre.length : Int) < (l.length : Int)) = true := by rw [h]; simp; omega
    simp (maxSteps := 1000000) +contextual only [go_sem, acondK_bool, acB_merge, Nat.reduceLT, Nat.reduceLeDiff, Nat.reduceEqDiff, Nat.reduceAdd, Nat.reduceSub, Nat.reduceMul, Nat.reduceBEq, Nat.reduceBNe, Nat.reduceBneDiff, Nat.reduceBeqDiff, Int.reduceToNat, Int.reduceLE, Int.reduceLT, Int.reduceEq, Int.reduceNe, Int.reduceNeg, Int.reduceAdd, Int.reduceSub, ↓reduceIte, reduceCtorEq, e3, e4, e2, wrap_nat hb, idxF]
def hasN (l : List Bytes) (w : Bytes) : Bool := l.any fun s => w == s
theorem containsS (l : List Bytes) (hl : l.length ≤ 1099511627776) (w : Bytes) (A : AHeap) : acl C 37 [.d (.slice (l.map sRow)), .d (.str w)] A = some (.d (.bool (hasN l w)), A) := by
  rw [k_call (c := C) (f := 37) rfl Try.func37 rfl (ok 37 (by kernel_rfl)) rfl Try.ntmps37 Try.results37 (by simp)]
  have e1 := indexS l hl w A
  simp (maxSteps := 1000000) +contextual only [go_sem, acondK_bool, acB_merge, Nat.reduceLT, Nat.reduceLeDiff, Nat.reduceEqDiff, Nat.reduceAdd, Nat.reduceSub, Nat.reduceMul, Nat.reduceBEq, Nat.reduceBNe, Nat.reduceBneDiff, Nat.reduceBeqDiff, Int.reduceToNat, Int.reduceLE, Int.reduceLT, Int.reduceEq, Int.reduceNe, Int.reduceNeg, Int.reduceAdd, Int.reduceSub, ↓reduceIte, reduceCtorEq, e1, idxF_nonneg, hasN]
def occF (w : Bytes) (t : Bool) (x : Stm) (_ : Int) : Bool := t || (decide (x.op = 2) && (x.name == w))
def occR (w : Bytes) (t : Bool) (e : E) : Bool := t || menE w e
end Go.Proofs.Ytjmghomnbmbjnaa
