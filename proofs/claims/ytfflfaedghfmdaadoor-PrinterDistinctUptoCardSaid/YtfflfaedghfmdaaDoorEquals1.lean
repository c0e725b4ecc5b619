/- Equality of procedures, on both sides. -/
import Derived.Test.YtfflfaedghfmdaaDoorWalks1
set_option linter.unusedVariables false
set_option linter.unusedSimpArgs false
set_option linter.all false
set_option linter.deprecated false
set_option linter.all false
namespace Go.Proofs.YtfflfaedghfmdaaDoor
open Go.Abs
attribute [local congr] ite_congr
set_option maxRecDepth 10000
def eqL {α : Type} (q : α → α → Bool) : List α → List α → Bool
  | [], _ => true
  | x :: l, y :: m => q x y && eqL q l m
  | _ :: _, [] => true
theorem eqEs_L : ∀ l m, eqEs l m = eqL eqE l m
  | [], _ => by simp [eqEs, eqL]
  | x :: l, y :: m => by simp [eqEs, eqL, eqEs_L l m]
  | _ :: _, [] => by simp [eqEs, eqL]
mutual
def eqS : Stm → Stm → Bool
  | .mk op name max a b body els, y => decide (op = y.op) && (name == y.name) && decide (max = y.max) && eqE a y.a && eqE b y.b && (decide ((body.length : Int) = (y.body.length : Int)) && eqSs body y.body) && (decide ((els.length : Int) = (y.els.length : Int)) && eqSs els y.els)
def eqSs : List Stm → List Stm → Bool
  | [], _ => true
  | x :: l, y :: m => eqS x y && eqSs l m
  | _ :: _, [] => true
end
theorem eqSs_L : ∀ l m, eqSs l m = eqL eqS l m
  | [], _ => by simp [eqSs, eqL]
  | x :: l, y :: m => by simp [eqSs, eqL, eqSs_L l m]
  | _ :: _, [] => by simp [eqSs, eqL]
theorem stmParts {x : Stm} (h : x.Ok) : x.a.Ok ∧ x.b.Ok ∧ x.body.length ≤ 1099511627776 ∧ x.els.length ≤ 1099511627776 ∧ (∀ y ∈ x.body, y.Ok) ∧ (∀ y ∈ x.els, y.Ok) := by
  cases h; exact ⟨by assumption, by assumption, by assumption, by assumption, by assumption, by assumption⟩
/-- the lists are equal, field by field -/
def eqPm (x y : Pm) : Bool := x.name == y.name && decide (x.type = y.type)
end Go.Proofs.YtfflfaedghfmdaaDoor
