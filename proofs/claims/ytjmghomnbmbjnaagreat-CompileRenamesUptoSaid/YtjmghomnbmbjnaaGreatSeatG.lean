/- The check of a procedure: the reference's scopes. -/
import Derived.Test.YtjmghomnbmbjnaaGreatSeatF
import Derived.Test.YtjmghomnbmbjnaaGreatSeatE
set_option linter.unusedVariables false
set_option linter.unusedSimpArgs false
set_option linter.all false
set_option linter.deprecated false
set_option linter.all false
namespace Go.Proofs.YtjmghomnbmbjnaaGreat
open Go.Abs
attribute [local congr] ite_congr
set_option maxRecDepth 10000
noncomputable abbrev grQ (A : AHeap) (l : List Pm) : AV × AHeap := agrow A 44 2 (l.map Pm.row)
theorem grQ_append (A : AHeap) (l : List Pm) (x : Pm) (h : l.length ≤ 4194303) : aappend Tryz.prog 44 2 (grQ A l).2 (grQ A l).1 [[.str x.name, .int .i64 x.type]] = some (grQ A (l ++ [x])) := by
  have := agrow_append (P := Tryz.prog) (A := A) (ty := 44) (sz := 2) (rows := l.map Pm.row) (src := [x.row]) room_44_2 (by rfl) (by simp; omega)
  unfold grQ
  rw [List.map_append]
  exact this
theorem modify_at {α : Type} (f : α → α) : ∀ (l : List α) (x : α) (m : List α), (l ++ x :: m).modify l.length f = l ++ f x :: m
  | [], x, m => rfl
  | y :: l, x, m => by simp [List.modify_succ_cons, modify_at f l x m]
def asgS (vars : List Pm) (loops : List Bytes) (k : Bytes) (t : Int) : Int :=
  if decide ((varS (getP vars k)).2 = 0) = true then (if (loops.any fun j => j == k) = true then 7 else if decide (t = (varS (getP vars k)).1) = true then 0 else 10) else (varS (getP vars k)).2
def wrgS (op a b : Int) : Bool := if decide (op = 3) = true then !decide (a = 2) || decide (b = 3) else if decide (op = 4) = true then !decide (a = 2) else if decide (op = 5) = true then !decide (a = 3) else if decide (op = 6) = true then !decide (a = 1) || !decide (b = 1) else if decide (op = 7) = true then decide (a = 3) else false
end Go.Proofs.YtjmghomnbmbjnaaGreat
set_option linter.all false
namespace Go.Proofs.YtjmghomnbmbjnaaGreat
open Go.Abs
attribute [local congr] ite_congr
set_option maxRecDepth 10000
mutual
def stR (vars : List Pm) (loops : List Bytes) : Stm → Int
  | .mk op name max a b body els =>
    let r := opsS (getP vars) (.mk op name max a b body els)
    let e1 := if (decide (r.2.2 = 0) && decide (op = 2)) = true then asgS vars loops name r.1 else r.2.2
    let e2 := if (decide (e1 = 0) && wrgS op r.1 r.2.1) = true then 10 else e1
    let e3 := if (decide (e2 = 0) && decide (op = 5)) = true then (if decide (bdR vars loops body = 0) = true then bdR vars loops els else bdR vars loops body) else e2
    if (decide (e3 = 0) && decide (op = 6)) = true then bdR (vars ++ [⟨name, 1⟩]) (loops ++ [name]) body else e3
def bdR (vars : List Pm) (loops : List Bytes) : List Stm → Int
  | [] => 0
  | x :: l => if decide (stR vars loops x = 0) = true then bdR (if decide (x.op = 1) = true then vars ++ [⟨x.name, (opsS (getP vars) x).1⟩] else vars) loops l else stR vars loops x
end
def vsAfter (vars : List Pm) : List Stm → List Pm
  | [] => vars
  | x :: l => vsAfter (if decide (x.op = 1) = true then vars ++ [⟨x.name, (opsS (getP vars) x).1⟩] else vars) l
theorem bdR_nil (vars : List Pm) (loops : List Bytes) : bdR vars loops [] = 0 := by rw [bdR]
theorem bdR_cons (vars : List Pm) (loops : List Bytes) (x : Stm) (l : List Stm) : bdR vars loops (x :: l) = if decide (stR vars loops x = 0) = true then bdR (if decide (x.op = 1) = true then vars ++ [⟨x.name, (opsS (getP vars) x).1⟩] else vars) loops l else stR vars loops x := by rw [bdR]
end Go.Proofs.YtjmghomnbmbjnaaGreat
set_option linter.all false
namespace Go.Proofs.YtjmghomnbmbjnaaGreat
open Go.Abs
attribute [local congr] ite_congr
set_option maxRecDepth 10000
def dupR (pre : List Bytes) : List Bytes → Bool
  | [] => false
  | x :: l => (pre.any fun y => y == x) || dupR (pre ++ [x]) l
def chkT (p : Pr) : Int := if decide (valS p = 0) = true then (if prmBool p.params = true then 10 else if dupR [] (namesS p) = true then 8 else bdR p.params [] p.body) else valS p
end Go.Proofs.YtjmghomnbmbjnaaGreat
