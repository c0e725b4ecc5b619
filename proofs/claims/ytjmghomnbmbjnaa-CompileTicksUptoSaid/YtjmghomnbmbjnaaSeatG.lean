/- The check of a procedure: the reference's scopes. -/
import Derived.Test.YtjmghomnbmbjnaaSeatF
import Derived.Test.YtjmghomnbmbjnaaSeatE
set_option linter.unusedVariables false
set_option linter.unusedSimpArgs false
set_option linter.all false
set_option linter.deprecated false
set_option linter.all false
namespace Go.Proofs.Ytjmghomnbmbjnaa
open Go.Abs
attribute [local congr] ite_congr
set_option maxRecDepth 10000
noncomputable abbrev grQ (A : AHeap) (l : List Pm) : AV × AHeap := agrow A 56 2 (l.map Pm.row)
theorem grQ_all (l : List Pm) : (l.map Pm.row).all (fun r => r.length == 2) = true := by
  rw [List.all_map, List.all_eq_true]; intro x _; rfl
theorem grS_all (l : List Bytes) : (l.map sRow).all (fun r => r.length == 1) = true := by
  rw [List.all_map, List.all_eq_true]; intro x _; rfl
theorem grQ_first (A : AHeap) (l : List Pm) (h : l.length ≤ 4194303) : aappend Try.prog 56 2 A .nilS (l.map Pm.row) = some (grQ A l) := by
  have := agrow_append (P := Try.prog) (A := A) (ty := 56) (sz := 2) (rows := []) (src := l.map Pm.row) room_56_2 (grQ_all l) (by simp; omega)
  rw [agrow_nil, List.nil_append] at this
  exact this
theorem grQ_append (A : AHeap) (l : List Pm) (x : Pm) (h : l.length ≤ 4194303) : aappend Try.prog 56 2 (grQ A l).2 (grQ A l).1 [[.str x.name, .int .i64 x.type]] = some (grQ A (l ++ [x])) := by
  have := agrow_append (P := Try.prog) (A := A) (ty := 56) (sz := 2) (rows := l.map Pm.row) (src := [x.row]) room_56_2 (by rfl) (by simp; omega)
  unfold grQ
  rw [List.map_append]
  exact this
theorem grS_first (A : AHeap) (l : List Bytes) (h : l.length ≤ 4194303) : aappend Try.prog 9 1 A .nilS (l.map sRow) = some (grS A l) := by
  have := agrow_append (P := Try.prog) (A := A) (ty := 9) (sz := 1) (rows := []) (src := l.map sRow) room_9_1 (grS_all l) (by simp; omega)
  rw [agrow_nil, List.nil_append] at this
  exact this
theorem modify_at {α : Type} (f : α → α) : ∀ (l : List α) (x : α) (m : List α), (l ++ x :: m).modify l.length f = l ++ f x :: m
  | [], x, m => rfl
  | y :: l, x, m => by simp [List.modify_succ_cons, modify_at f l x m]
/-- two slices that have grown are handed out -/
theorem afin_two {f : FuncId} (ho : C.own f = false) (A : AHeap) (e1 s1 e2 s2 : Nat) (r1 r2 : List (List Dat)) (h : r1 ≠ []) :
    afinR C f A (agrow (agrow A e1 s1 r1).2 e2 s2 r2).2 (some (.agg [(agrow A e1 s1 r1).1, (agrow (agrow A e1 s1 r1).2 e2 s2 r2).1])) = some (.agg [.d (.slice r1), .d (.slice r2)], A) := by
  simp only [afinR, Option.map_some, afinish, ho, Bool.false_eq_true, if_false]
  unfold agrow
  simp only [if_neg h]
  by_cases h2 : r2 = []
  · subst h2
    simp only [if_true, acleanR, acleanV, acleans, aclean, arows]
    simp only [List.getElem?_append_right (Nat.le_refl _), Nat.sub_self, List.getElem?_cons_zero, if_true]
    unfold acut
    simp [AHeap.freeze, AV.noptr, AV.noptr2, AV.noptr1]
    rw [List.take_modify_front]
  · simp only [if_neg h2, acleanR, acleanV, acleans, aclean, arows, List.append_assoc, List.cons_append, List.nil_append, List.length_append, List.length_cons, List.length_nil]
    simp only [List.getElem?_append_right (Nat.le_refl _), Nat.sub_self, List.getElem?_cons_zero, if_true, AHeap.freeze, modify_at]
    have g1 : ∀ (x y : ABuf), (A.bufs ++ [x, y])[A.bufs.length + (0 + 1)]? = some y := by intro x y; simp
    have g2 : ∀ (x y : ABuf) (q : ABuf → ABuf), (A.bufs ++ [x, y]).modify (A.bufs.length + (0 + 1)) q = A.bufs ++ [x, q y] := by
      intro x y q
      have := modify_at q (A.bufs ++ [x]) y []
      simpa using this
    simp only [g1, g2, if_true]
    unfold acut
    simp [AV.noptr, AV.noptr2, AV.noptr1]
def scV (vars : List Pm) (loops : List Bytes) : AV := .agg [.d (.slice (vars.map Pm.row)), .d (.slice (loops.map sRow))]
/-- an assignment's error -/
def asgS (vars : List Pm) (loops : List Bytes) (k : Bytes) (t : Int) : Int :=
  if decide ((varS (getP vars k)).2 = 0) = true then (if (loops.any fun j => j == k) = true then 7 else if decide (t = (varS (getP vars k)).1) = true then 0 else 10) else (varS (getP vars k)).2
def wrgS (op a b : Int) : Bool := if decide (op = 3) = true then !decide (a = 2) || decide (b = 3) else if decide (op = 4) = true then !decide (a = 2) else if decide (op = 5) = true then !decide (a = 3) else if decide (op = 6) = true then !decide (a = 1) || !decide (b = 1) else if decide (op = 7) = true then decide (a = 3) else false
end Go.Proofs.Ytjmghomnbmbjnaa
set_option linter.all false
namespace Go.Proofs.Ytjmghomnbmbjnaa
open Go.Abs
attribute [local congr] ite_congr
set_option maxRecDepth 10000
mutual
def stR (vars : List Pm) (loops : List Bytes) : Stm → Int
  | .mk op name max a b body els =>
    let r := opsS (getP vars) (.mk op name max a b body els)
    let e1 := if (decide (r.2.2 = 0) && decide (op = 2)) = true then asgS vars loops name r.1 else r.2.2
    let e2 := if (decide (e1 = 0) && wrgS op r.1 r.2.1) = true then 10 else e1
    let e3 := if (decide (e2 = 0) && decide (op = 5)) = true then (if decide (bdR vars loops body = 0) = true then bdR vars loops els else bdR vars loops body) else e2
    if (decide (e3 = 0) && decide (op = 6)) = true then bdR (vars ++ [⟨name, 1⟩]) (loops ++ [name]) body else e3
def bdR (vars : List Pm) (loops : List Bytes) : List Stm → Int
  | [] => 0
  | x :: l => if decide (stR vars loops x = 0) = true then bdR (if decide (x.op = 1) = true then vars ++ [⟨x.name, (opsS (getP vars) x).1⟩] else vars) loops l else stR vars loops x
end
def vsAfter (vars : List Pm) : List Stm → List Pm
  | [] => vars
  | x :: l => vsAfter (if decide (x.op = 1) = true then vars ++ [⟨x.name, (opsS (getP vars) x).1⟩] else vars) l
theorem vsAfter_snoc : ∀ (l : List Stm) (vars : List Pm) (x : Stm), vsAfter vars (l ++ [x]) = (if decide (x.op = 1) = true then vsAfter vars l ++ [⟨x.name, (opsS (getP (vsAfter vars l)) x).1⟩] else vsAfter vars l)
  | [], vars, x => rfl
  | y :: l, vars, x => by simp only [List.cons_append, vsAfter]; exact vsAfter_snoc l _ x
theorem vsAfter_len : ∀ (l : List Stm) (vars : List Pm), (vsAfter vars l).length ≤ vars.length + l.length
  | [], vars => by simp [vsAfter]
  | x :: l, vars => by
    have := vsAfter_len l (if decide (x.op = 1) = true then vars ++ [⟨x.name, (opsS (getP vars) x).1⟩] else vars)
    simp only [vsAfter, List.length_cons]
    split at this <;> rename_i h
    · rw [if_pos h]; simp at this; omega
    · rw [if_neg h]; omega
theorem bdR_nil (vars : List Pm) (loops : List Bytes) : bdR vars loops [] = 0 := by rw [bdR]
theorem bdR_cons (vars : List Pm) (loops : List Bytes) (x : Stm) (l : List Stm) : bdR vars loops (x :: l) = if decide (stR vars loops x = 0) = true then bdR (if decide (x.op = 1) = true then vars ++ [⟨x.name, (opsS (getP vars) x).1⟩] else vars) loops l else stR vars loops x := by rw [bdR]
theorem visS_pos (x : Stm) (d : Int) : 1 ≤ (visS x d).length := by cases x; simp [visS]
theorem visSs_len_le : ∀ (l : List Stm) (d : Int), l.length ≤ (visSs l d).length
  | [], _ => Nat.zero_le _
  | x :: l, d => by
    have h1 := visS_pos x d
    have h2 := visSs_len_le l d
    simp only [visSs, List.length_append, List.length_cons]
    omega
theorem visSs_pre_len (pre suf : List Stm) (x : Stm) (d : Int) : pre.length + (visS x d).length ≤ (visSs (pre ++ x :: suf) d).length := by
  have h1 := visSs_len_le pre d
  rw [visSs_append]
  simp only [visSs, List.length_append]
  omega
theorem visS_len_body {op : Int} {name : Bytes} {max : Int} {a b : E} {body els : List Stm} {d : Int} : (visSs body (IntKind.i64.wrap (d + 1))).length + 1 ≤ (visS (.mk op name max a b body els) d).length ∧ (visSs els (IntKind.i64.wrap (d + 1))).length + 1 ≤ (visS (.mk op name max a b body els) d).length := by
  simp [visS]
  omega
end Go.Proofs.Ytjmghomnbmbjnaa
set_option linter.all false
namespace Go.Proofs.Ytjmghomnbmbjnaa
open Go.Abs
attribute [local congr] ite_congr
set_option maxRecDepth 10000
def scA (l : List Pm) : AV := if l = [] then .nilS else .d (.slice (l.map Pm.row))
def scB (l : List Pm) : AV := if l = [] then .nilS else .d (.slice [])
theorem sc_clean (l : List Pm) (A : AHeap) : acleanV A (.agg [scA l, scB l]) = (.agg [.d (.slice (l.map Pm.row)), .d (.slice [])], A) := by
  unfold scA scB
  by_cases h : l = []
  · subst h; rfl
  · rw [if_neg h, if_neg h]; rfl
def dupR (pre : List Bytes) : List Bytes → Bool
  | [] => false
  | x :: l => (pre.any fun y => y == x) || dupR (pre ++ [x]) l
/-- the error of the check, as the reference finds it -/
def chkT (p : Pr) : Int := if decide (valS p = 0) = true then (if prmBool p.params = true then 10 else if dupR [] (namesS p) = true then 8 else bdR p.params [] p.body) else valS p
end Go.Proofs.Ytjmghomnbmbjnaa
