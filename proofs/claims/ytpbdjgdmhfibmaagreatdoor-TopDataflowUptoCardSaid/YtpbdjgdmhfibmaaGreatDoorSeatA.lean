/- The lexer's names: the program's and the reference's tests agree. -/
import Derived.Test.YtpbdjgdmhfibmaaGreatDoorRows
import Derived.Test.YtpbdjgdmhfibmaaGreatDoorChecked
import Derived.JoinedCond
import Derived.OpenShut
import Derived.Test.YtpbdjgdmhfibmaaGreatDoorFacts
import Derived.Test.YtpbdjgdmhfibmaaGreatDoorGenD
set_option linter.unusedVariables false
set_option linter.unusedSimpArgs false
set_option linter.all false
set_option linter.deprecated false
set_option linter.all false
set_option linter.unusedSimpArgs false
namespace Go.Proofs.YtpbdjgdmhfibmaaGreatDoor
open Go.Abs
attribute [local congr] ite_congr
set_option maxRecDepth 10000
theorem leafB {A : AHeap} {a b : Bool} (h : a = b) : some (AV.d (.bool a), A) = some (AV.d (.bool b), A) := by rw [h]
theorem leafI {A : AHeap} {k : IntKind} {a b : Int} (h : a = b) : some (AV.d (.int k a), A) = some (AV.d (.int k b), A) := by rw [h]
@[go_sem] theorem letter (n : Int) (A : AHeap) : acl C 149 [.d (.int .i32 n)] A = some (.d (.bool (decide (97 ≤ n) && decide (n ≤ 122))), A) := by
  rw [k_call (c := C) (f := 149) rfl Tryz.func149 rfl (ok 149 (by kernel_rfl)) rfl Tryz.ntmps149 Tryz.results149 (by simp)]
  simp (maxSteps := 1000000) +contextual only [go_sem, acondK_bool, afinR_d]
def part (n : Int) : Bool := decide (97 ≤ n) && decide (n ≤ 122) || (decide (48 ≤ n) && decide (n ≤ 57)) || decide (n = 95)
def keywords : List (List UInt8) := [[112, 114, 111, 99], [108, 101, 116], [112, 117, 116], [100, 101, 108, 101, 116, 101], [105, 102], [101, 108, 115, 101], [102, 111, 114], [116, 111], [109, 97, 120], [101, 109, 105, 116], [97, 98, 111, 114, 116], [110, 111, 116], [97, 110, 100], [111, 114], [105, 110, 116], [115, 116, 114], [98, 111, 111, 108], [116, 101, 120, 116], [108, 101, 110], [103, 101, 116, 105, 110, 116], [103, 101, 116, 115, 116, 114], [104, 97, 115], [110, 111, 119], [114, 97, 110, 100, 111, 109], [110, 111, 100, 101]]
@[go_sem] theorem isKeyword (s : List UInt8) (A : AHeap) : acl C 151 [.d (.str s)] A = some (.d (.bool (keywords.contains s)), A) := by
  rw [k_call (c := C) (f := 151) rfl Tryz.func151 rfl (ok 151 (by kernel_rfl)) rfl Tryz.ntmps151 Tryz.results151 (by simp)]
  simp (maxSteps := 1000000) +contextual only [go_sem, acondK_bool, keywords]
def wlen : List UInt8 → Nat
 | [] => 0
 | b :: l => if part (b.toNat : Int) = true then wlen l + 1 else 0
@[go_sem] theorem word (s : List UInt8) (A : AHeap) (hl : s.length ≤ 1099511627776) : acl C 150 [.d (.str s)] A = some (.d (.int .i64 (wlen s : Nat)), A) := by
  rw [k_call (c := C) (f := 150) rfl Tryz.func150 rfl (ok 150 (by kernel_rfl)) rfl Tryz.ntmps150 Tryz.results150 (by simp)]
  simp (maxSteps := 1000000) +contextual only [go_sem, acondK_bool]
  refine loop_any (fun _ => [(6, .v (.ptr A.objs.length 0)), (0, .v (.d (.str s)))]) (fun pre => ⟨A.objs ++ [.iter s pre.length], A.bufs⟩) (fun pre suf => some (.d (.int .i64 ((pre.length + wlen suf : Nat) : Int)), A)) s rfl rfl (by simp) ?_
  intro pre suf h ih
  subst h
  cases suf with
  | nil => simp (maxSteps := 1000000) +contextual only [go_sem, acondK_bool, anextO_end, wlen]
  | cons x suf =>
    rcases Nat.lt_or_ge x.toNat 128 with hx | hx
    ·have e : pre.length + 1 = (pre ++ [x]).length := by simp
     have ih' := ih x suf rfl
     rw [← e] at ih'
     simp (maxSteps := 1000000) +contextual only [go_sem, acondK_bool, anextO_low hx, ih']
     refine leafI ?_
     clear ih ih'
     cases hp : part (x.toNat : Int) <;> simp only [wlen, hp, if_true, Bool.false_eq_true, if_false] <;> simp [part] at hp
     all_goals
      repeat' split
      all_goals simp at *
      all_goals omega
    ·obtain ⟨r, w, hr, hn⟩ := anextO_high (A := ⟨A.objs ++ [.iter (pre ++ x :: suf) pre.length], A.bufs⟩) (id := A.objs.length) (pre := pre) (suf := suf) hx
     have h1 : decide ((r : Int) ≤ 122) = false := by simp; omega
     have h2 : decide ((r : Int) = 95) = false := by simp; omega
     have h3 : decide ((57 : Int) < (r : Int)) = true := by simp; omega
     have h4 : part (x.toNat : Int) = false := by simp [part]; omega
     simp (maxSteps := 1000000) +contextual only [go_sem, acondK_bool, hn, h1, h2, h3, h4, wlen]
def isName (s : List UInt8) : Bool := match s with
 | [] => false
 | b :: l => decide (((b :: l).length : Int) ≤ 16) && (decide (97 ≤ (b.toNat : Int)) && decide ((b.toNat : Int) ≤ 122)) && decide ((wlen (b :: l) : Int) = ((b :: l).length : Int)) && !keywords.contains (b :: l)
@[go_sem] theorem isName_eq (s : List UInt8) (A : AHeap) (hl : s.length ≤ 1099511627776) : acl C 110 [.d (.str s)] A = some (.d (.bool (isName s)), A) := by
  rw [k_call (c := C) (f := 110) rfl Tryz.func110 rfl (ok 110 (by kernel_rfl)) rfl Tryz.ntmps110 Tryz.results110 (by simp)]
  cases s with
  | nil => simp (maxSteps := 1000000) +contextual only [go_sem, acondK_bool, isName]
  | cons b l =>
    simp only [List.length_cons] at hl
    simp (maxSteps := 1000000) +contextual only [go_sem, acondK_bool, isName, hl]
end Go.Proofs.YtpbdjgdmhfibmaaGreatDoor
namespace Go.Proofs.YtpbdjgdmhfibmaaGreatDoor
open Go.Abs
attribute [local congr] ite_congr
def ar (n : Int) : Int := if n < 1 ∨ 27 < n then -1 else if n ≤ 3 ∨ 25 ≤ n then 0 else if n = 9 ∨ n = 18 ∨ 20 ≤ n then 1 else 2
theorem leaf {A : AHeap} {a b : Int} (h : a = b) : some (AV.d (.int .i64 a), A) = some (AV.d (.int .i64 b), A) := by rw [h]
set_option maxRecDepth 100000 in
@[go_sem] theorem arity (n : Int) (A : AHeap) : acl C 229 [.d (.int .i64 n)] A = some (.d (.int .i64 (ar n)), A) := by
  rw [k_call (c := C) (f := 229) rfl Tryz.func229 rfl (ok 229 (by kernel_rfl)) rfl Tryz.ntmps229 Tryz.results229 (by simp)]
  simp (maxSteps := 1000000) +contextual only [go_sem, acondK_bool]
  repeat' (refine way (fun h => ?_) (fun h => ?_))
  all_goals
   refine leaf ?_
   simp at *
   unfold ar
   repeat' split
   all_goals omega
end Go.Proofs.YtpbdjgdmhfibmaaGreatDoor
set_option linter.all false
namespace Go.Proofs.YtpbdjgdmhfibmaaGreatDoor
open Go.Abs
attribute [local congr] ite_congr
set_option maxRecDepth 10000
theorem ifnot {b x : Bool} : (if b = true then false else x) = (!b && x) := by cases b <;> rfl
abbrev eV (op n : Int) (s : Bytes) (args : List (List Dat)) : AV := .agg [.d (.int .i64 op), .d (.int .i64 n), .d (.str s), .d (.slice args)]
def absentS (op n : Int) (s : Bytes) (len : Nat) : Bool := decide (op = 0) && decide (n = 0) && (s == []) && decide ((len : Int) = 0)
@[go_sem] theorem absent (op n : Int) (s : Bytes) (args : List (List Dat)) (A : AHeap) : acl C 178 [eV op n s args] A = some (.d (.bool (absentS op n s args.length)), A) := by
  rw [k_call (c := C) (f := 178) rfl Tryz.func178 rfl (ok 178 (by kernel_rfl)) rfl Tryz.ntmps178 Tryz.results178 (by simp)]
  simp (maxSteps := 1000000) +contextual only [go_sem, acondK_bool, absentS]
def inner (b : UInt8) : Bool := !(decide ((b.toNat : Int) < 32) || decide (126 < (b.toNat : Int)))
def plainS (s : Bytes) : Bool := s.all inner && decide ((s.length : Int) ≤ 64)
@[go_sem] theorem plain (s : Bytes) (A : AHeap) (hl : s.length ≤ 1099511627776) : acl C 230 [.d (.str s)] A = some (.d (.bool (plainS s)), A) := by
  rw [k_call (c := C) (f := 230) rfl Tryz.func230 rfl (ok 230 (by kernel_rfl)) rfl Tryz.ntmps230 Tryz.results230 (by simp)]
  simp (maxSteps := 1000000) +contextual only [go_sem, acondK_bool]
  refine loop_list (fun n => [(0, .v (.d (.str s))), (3, .v (.d (.int .i64 (n : Int))))]) (fun pre suf => some (.d (.bool (suf.all inner && decide ((s.length : Int) ≤ 64))), A)) s rfl (by simp [plainS]) ?_
  intro pre suf h ih
  subst h
  have hb : pre.length < 9223372036854775807 := by simp at hl; omega
  cases suf with
  | nil => simp (maxSteps := 1000000) +contextual only [go_sem, acondK_bool]
  | cons x suf =>
    simp (maxSteps := 1000000) +contextual only [go_sem, acondK_bool, ih x suf rfl, wrap_nat hb]
    refine leafB ?_
    cases hx : inner x <;> simp [hx] <;> simp [inner] at hx <;> omega
def nodeS (op n : Int) (s : Bytes) (len : Nat) (depth : Int) : Int :=
 if (decide (ar op < 0) || !decide (op = 1) && !decide (n = 0) || !decide (op = 2) && !decide (op = 3) && !(s == [])) = true then 1
 else if (decide (op = 3) && !isName s) = true then 7
 else if (decide (op = 1) && decide (n < 0) || decide (op = 2) && !plainS s || !decide ((len : Int) = ar op)) = true then 1
 else if 12 < depth then 2 else 0
@[go_sem] theorem node (op n depth : Int) (s : Bytes) (args : List (List Dat)) (A : AHeap) (hl : s.length ≤ 1099511627776) : acl C 209 [eV op n s args, .d (.int .i64 depth)] A = some (.d (.int .i64 (nodeS op n s args.length depth)), A) := by
  rw [k_call (c := C) (f := 209) rfl Tryz.func209 rfl (ok 209 (by kernel_rfl)) rfl Tryz.ntmps209 Tryz.results209 (by simp)]
  simp (maxSteps := 1000000) +contextual only [go_sem, acondK_bool, hl]
  refine leafI ?_
  simp only [nodeS, ifnot]
  split <;> rename_i h1
  ·rfl
  split <;> rename_i h2
  ·rfl
  split <;> rename_i h3
  ·rfl
  simp
abbrev E.av (e : E) : AV := eV e.op e.n e.s (e.args.map E.row)
mutual
def chkE : E → Int → Int
 | .mk op n s args, d => if nodeS op n s args.length d = 0 then chkL args (IntKind.i64.wrap (d + 1)) else nodeS op n s args.length d
def chkL : List E → Int → Int
 | [], _ => 0
 | x :: l, d => if chkE x d = 0 then chkL l d else chkE x d
end
theorem check : ∀ e, E.Ok e → ∀ (d : Int) (A : AHeap), acl C 179 [E.av e, .d (.int .i64 d)] A = some (.d (.int .i64 (chkE e d)), A) := by
 intro e
 induction e using E.ind with
 | h op n s args ih =>
   intro hok d A
   rw [k_call (c := C) (f := 179) rfl Tryz.func179 rfl (ok 179 (by kernel_rfl)) rfl Tryz.ntmps179 Tryz.results179 (by simp)]
   simp (maxSteps := 1000000) +contextual only [go_sem, acondK_bool, hok.s]
   refine way (fun h => ?_) (fun h => ?_)
   ·refine loop_list (fun i => [(17, .v (.d (.int .i64 (args.length : Nat)))), (16, .v (.d (.slice (args.map E.row)))), (1, .v (.d (.int .i64 d))), (18, .v (.d (.int .i64 (i : Int))))])
     (fun pre suf => some (.d (.int .i64 (chkL suf (IntKind.i64.wrap (d + 1)))), A)) args rfl (by simp at h; simp [chkE, h]) ?_
    intro pre suf hl ih2
    have hb : pre.length < 9223372036854775807 := by have := hok.len; rw [hl] at this; simp at this; omega
    rw [hl]
    cases suf with
    | nil => simp (maxSteps := 1000000) +contextual only [go_sem, acondK_bool, chkL]
    | cons x suf =>
      have hx : x ∈ args := by rw [hl]; simp
      have e1 := ih x hx (hok.arg x hx) (IntKind.i64.wrap (d + 1)) A
      have e2 := ih2 x suf rfl
      rw [hl] at e2
      simp only [List.length_append, List.length_cons] at e2
      simp (maxSteps := 1000000) +contextual only [go_sem, acondK_bool, E.row_eq, e1, e2, wrap_nat hb, chkL]
      refine leafI ?_
      simp
   ·refine leafI ?_
    simp at h
    simp [chkE, h]
mutual
def cntE : E → Int → Int
 | .mk op n s args, m => cntL args (IntKind.i64.wrap (1 + IntKind.i64.wrap (Int.tdiv s.length 64))) m
def cntL : List E → Int → Int → Int
 | [], n, _ => n
 | x :: l, n, m => if n ≤ m then cntL l (IntKind.i64.wrap (n + cntE x (IntKind.i64.wrap (m - n)))) m else n
end
def cntP : List E → Int → Int → Int
 | [], n, _ => n
 | x :: l, n, m => cntP l (IntKind.i64.wrap (n + cntE x (IntKind.i64.wrap (m - n)))) m
theorem cntP_snoc : ∀ (l : List E) (x : E) (n m : Int), cntP (l ++ [x]) n m = IntKind.i64.wrap (cntP l n m + cntE x (IntKind.i64.wrap (m - cntP l n m)))
 | [], _, _, _ => rfl
 | y :: l, x, n, m => by simp only [List.cons_append, cntP, cntP_snoc l]
theorem count : ∀ e, E.Ok e → ∀ (m : Int) (A : AHeap), acl C 33 [E.av e, .d (.int .i64 m)] A = some (.d (.int .i64 (cntE e m)), A) := by
 intro e
 induction e using E.ind with
 | h op n s args ih =>
   intro hok m A
   rw [k_call (c := C) (f := 33) rfl Tryz.func33 rfl (ok 33 (by kernel_rfl)) rfl Tryz.ntmps33 Tryz.results33 (by simp)]
   simp (maxSteps := 1000000) +contextual only [go_sem, acondK_bool, hok.s]
   refine loop_any (fun pre => [(5, .v (.d (.int .i64 (cntP pre (IntKind.i64.wrap (1 + IntKind.i64.wrap (Int.tdiv s.length 64))) m)))), (6, .v (.d (.int .i64 (pre.length : Int)))), (1, .v (.d (.int .i64 m))), (2, .box [.d (.int .i64 op), .d (.int .i64 n), .d (.str s), .d (.slice (args.map E.row))])])
    (fun _ => A)
    (fun pre suf => some (.d (.int .i64 (cntL suf (cntP pre (IntKind.i64.wrap (1 + IntKind.i64.wrap (Int.tdiv s.length 64))) m) m)), A)) args rfl rfl (by simp [cntE, cntP]) ?_
   intro pre suf hl ih2
   have hb : pre.length < 9223372036854775807 := by have := hok.len; rw [hl] at this; simp at this; omega
   generalize hn : cntP pre (IntKind.i64.wrap (1 + IntKind.i64.wrap (Int.tdiv s.length 64))) m = k
   rw [hl]
   cases suf with
   | nil => simp (maxSteps := 1000000) +contextual only [go_sem, acondK_bool, cntL]
   | cons x suf =>
     have hx : x ∈ args := by rw [hl]; simp
     have e1 := ih x hx (hok.arg x hx) (IntKind.i64.wrap (m - k)) A
     have e2 := ih2 x suf rfl
     rw [cntP_snoc, hn, hl, List.length_append, List.length_cons, List.length_nil] at e2
     simp (maxSteps := 1000000) +contextual only [go_sem, acondK_bool, E.row_eq, e1, e2, wrap_nat hb, cntL]
     refine leafI ?_
     simp
end Go.Proofs.YtpbdjgdmhfibmaaGreatDoor
namespace Go.Proofs.YtpbdjgdmhfibmaaGreatDoor
open Go.Abs
theorem own : ownKnob Tryz.prog.godebug = none := by kernel_rfl
theorem mixed : C.P.follows .mixedOrders = true := by kernel_rfl
theorem and2 {a b : Bool} (h : a = true) (h' : b = true) : (a && b) = true := by rw [h, h']; rfl
end Go.Proofs.YtpbdjgdmhfibmaaGreatDoor
set_option linter.all false
namespace Go.Proofs.YtpbdjgdmhfibmaaGreatDoor
open Go.ChangeShapes Go.WideShapes Go.ChangeAt Go.RowKit
open Go.Abs
theorem bulk_mem {H : Type} : ∀ {l : List (DataW H)} {d : DataW H}, d ∈ l → Rows.uptoBulk d ≤ Rows.uptoBulkAll l
 | [], _, h => by cases h
 | x :: l, d, h => by
   unfold Rows.uptoBulkAll
   rcases List.mem_cons.1 h with rfl | h
   ·omega
   ·have := bulk_mem h; omega
theorem bulk_pos {H : Type} (d : DataW H) : 1 ≤ Rows.uptoBulk d := by
 unfold Rows.uptoBulk
 split <;> omega
theorem bulk_len {H : Type} : ∀ (l : List (DataW H)), l.length ≤ Rows.uptoBulkAll l
 | [] => Nat.zero_le _
 | x :: l => by
   have h1 := bulk_pos x
   have h2 := bulk_len l
   unfold Rows.uptoBulkAll
   simp
   omega
theorem bulk {H : Type} : Bulk (Rows.uptoBulk (H := H)) where
 str s := by unfold Rows.uptoBulk; simp
 agg l d h := by
  have := bulk_mem h
  have e : Rows.uptoBulk (.agg l) = Rows.uptoBulkAll l + 1 := by rw [Rows.uptoBulk]
  omega
 len l sp := by
  have := bulk_len l
  have e : Rows.uptoBulk (.slice l sp) = Rows.uptoBulkAll l + Rows.uptoBulkAll sp + 1 := by rw [Rows.uptoBulk]
  omega
 elem l sp d h := by
  have := bulk_mem h
  have e : Rows.uptoBulk (.slice l sp) = Rows.uptoBulkAll l + Rows.uptoBulkAll sp + 1 := by rw [Rows.uptoBulk]
  omega
theorem exprTy : ExprTy Tryz.prog 62 3 2 9 60 where
 e := ⟨_, Tryz.underlying62, rfl⟩
 int := Tryz.underlying3
 i := Tryz.underlying2
 str := Tryz.underlying9
 es := Tryz.underlying60
 ce := by kernel_rfl
 cint := by kernel_rfl
 ci := by kernel_rfl
 cstr := by kernel_rfl
 ces := by kernel_rfl
theorem procTy : ProcTy Tryz.prog 25 53 22 64 62 3 2 9 60 23 where
 toExprTy := exprTy
 s := ⟨_, Tryz.underlying64, rfl⟩
 ss := Tryz.underlying23
 cs := by kernel_rfl
 css := by kernel_rfl
 p := ⟨_, Tryz.underlying25, rfl⟩
 pm := ⟨_, Tryz.underlying53, rfl⟩
 pms := Tryz.underlying22
 cp := by kernel_rfl
 cpm := by kernel_rfl
 cpms := by kernel_rfl
theorem laid : laidOutB Tryz.prog = true := by kernel_rfl
structure Vl where
 kind : Int
 n : Int
 s : Bytes
def Vl.row (x : Vl) : List Dat := [.int .i64 x.kind, .int .i64 x.n, .str x.s]
structure Vl.Ok (x : Vl) : Prop where
 kind : i64 x.kind
 n : i64 x.n
 s : x.s.length ≤ 1099511627776
theorem readVl (n : Nat) (ds : List Dat) (h : shapeT Tryz.prog 1048576 n 69 ds) : ∃ p : Vl, p.Ok ∧ ds = p.row := by
 obtain ⟨k, rfl, hl, hf⟩ := shape_struct (l := [(3, 0), (2, 1), (9, 2)]) ⟨_, Tryz.underlying69, rfl⟩ h
 have c3 : Tryz.prog.cellsOf 69 = 3 := by kernel_rfl
 rw [c3] at hl
 obtain ⟨d0, d1, d2, rfl⟩ := len3 hl
 have h0 := hf (3, 0) (by simp)
 have h1 := hf (2, 1) (by simp)
 have h2 := hf (9, 2) (by simp)
 simp only [exprTy.cint, exprTy.ci, exprTy.cstr, List.drop_zero, List.drop_succ_cons, List.take_succ_cons, List.take_zero] at h0 h1 h2
 obtain ⟨a, rfl, ha⟩ := shape_i64 exprTy.int h0
 obtain ⟨b, rfl, hb⟩ := shape_i64 exprTy.i h1
 obtain ⟨s, rfl, hs⟩ := shape_str exprTy.str h2
 exact ⟨⟨a, b, s⟩, ⟨ha, hb, by show s.length ≤ _; omega⟩, rfl⟩
def Good (t : TypeId) (x : AV) : Prop := (t = 25 → ∃ p : Pr, p.Ok ∧ x = .agg (p.row.map .d)) ∧ (t = 9 → ∃ s : Bytes, s.length ≤ 1048576 ∧ x = .d (.str s)) ∧ (t = 62 → ∃ p : E, p.Ok ∧ x = .agg (p.row.map .d)) ∧
 (t = 22 → ∃ l : List Pm, (l.length ≤ 1048576 ∧ ∀ y ∈ l, y.Ok) ∧ x = .d (.slice (l.map Pm.row))) ∧ (t = 26 → ∃ l : List Vl, (l.length ≤ 1048576 ∧ ∀ y ∈ l, y.Ok) ∧ x = .d (.slice (l.map Vl.row)))
end Go.Proofs.YtpbdjgdmhfibmaaGreatDoor
namespace Go.Proofs.YtpbdjgdmhfibmaaGreatDoor
end Go.Proofs.YtpbdjgdmhfibmaaGreatDoor
set_option linter.all false
namespace Go.Proofs.YtpbdjgdmhfibmaaGreatDoor
open Go.Abs
attribute [local congr] ite_congr
set_option maxRecDepth 100000
structure Stp where
 st : Int
 code : Int
 miss : Bytes
def Stp.av (s : Stp) : AV := .agg [.d (.int .i64 s.st), .d (.int .i64 s.code), .d (.slice []), .d (.str s.miss)]
def abt (code : Int) : Stp := ⟨2, code, []⟩
def rst (key : Bytes) : Stp := ⟨3, 0, key⟩
inductive px : PXF where
 | abort (code : Int) (A : AHeap) : px 122 [.d (.int .i64 code)] A (abt code).av A
 | restart (key : Bytes) (A : AHeap) : px 169 [.d (.str key)] A (rst key).av A
theorem pxNo : PxNo C px := by
 intro f args A x A' h
 cases h with
 | abort code => rw [acl_ext (c := C) (f := 122) (g := failFn) rfl]; rfl
 | restart key => rw [acl_ext (c := C) (f := 169) (g := failFn) rfl]; rfl
@[go_sem] theorem po_callC {f nt : Nat} {rs : List ResultVar} {A A0 : AHeap} {R : PR} {ks : List KF} {env : AEnv} {ops : Array Oper} {dst : Option Tmp} {gop : Operand} {xs : Array Operand} {ts : Array TypeId} {ty : TypeId} {pos : String} {after : Array Edge} {gd : Option (Nat × Bool)} {rest : List Oper} :
  pops ⟨⟨C, f, nt, rs, A0⟩, px, R⟩ ks ops (⟨dst, .call ⟨.value gop, xs, ts⟩, ty, pos, after, gd⟩ :: rest) env A =
   pselG (aguard ops env ⟨dst, .call ⟨.value gop, xs, ts⟩, ty, pos, after, gd⟩) (pcallK ⟨⟨C, f, nt, rs, A0⟩, px, R⟩ A (fun v B => pput ⟨⟨C, f, nt, rs, A0⟩, px, R⟩ ks ops rest (aputS nt dst env (some (.v v, B)))) (aeval env gop) (aevals env xs.toList)) (pput ⟨⟨C, f, nt, rs, A0⟩, px, R⟩ ks ops rest (aput0 nt dst env A)) :=
  po_call (p := ⟨⟨C, f, nt, rs, A0⟩, px, R⟩) pxNo
theorem pcl_px {f : FuncId} {args : List AV} {A A' : AHeap} {x : AV} {R : PR} (h : px f args A x A') (hr : R x A') : pcl C px f args A R := ⟨x, A', .ext h, hr⟩
theorem abortP {code : Int} {A : AHeap} {R : PR} (h : R (abt code).av A) : pcl C px 122 [.d (.int .i64 code)] A R := pcl_px (.abort code A) h
theorem restartP {key : Bytes} {A : AHeap} {R : PR} (h : R (rst key).av A) : pcl C px 169 [.d (.str key)] A R := pcl_px (.restart key A) h
theorem abortN (code : Int) (A : AHeap) : acl C 122 [.d (.int .i64 code)] A = none := by rw [acl_ext (c := C) (f := 122) (g := failFn) rfl]; rfl
theorem restartN (key : Bytes) (A : AHeap) : acl C 169 [.d (.str key)] A = none := by rw [acl_ext (c := C) (f := 169) (g := failFn) rfl]; rfl
attribute [go_sem] abortN restartN
@[go_sem] theorem pg_none {ops : Array Oper} {env : AEnv} {dst : Option Tmp} {op : Op} {ty : TypeId} {pos : String} {after : Array Edge} : aguard ops env ⟨dst, op, ty, pos, after, none⟩ = some true := by rfl
theorem post_same {f nt : Nat} {rs : List ResultVar} {A : AHeap} {R : PR} {s : Stp} (ho : C.own f = false) : (⟨⟨C, f, nt, rs, A⟩, px, R⟩ : PF).post s.av A ↔ R s.av A := by
 unfold PF.post afinish
 simp only [ho, Bool.false_eq_true, if_false]
 have : acleanR A s.av = (s.av, A) := by rfl
 rw [this, acut_same (by rfl)]
theorem mustT (A : AHeap) : acl C 124 [.d (.bool true)] A = some (.tuple [], A) := by
 rw [k_call (c := C) (f := 124) rfl Tryz.func124 rfl (ok 124 (by kernel_rfl)) rfl Tryz.ntmps124 Tryz.results124 (by simp)]
 simp (maxSteps := 1000000) only [go_sem, acondK_bool]
theorem mustF (A : AHeap) {R : PR} (h : R (abt 1009).av A) : pcl C px 124 [.d (.bool false)] A R := by
 refine k_pan (c := C) (f := 124) rfl Tryz.func124 rfl (ok 124 (by kernel_rfl)) rfl Tryz.ntmps124 Tryz.results124 (by simp) ?_
 simp (maxSteps := 1000000) only [go_sem, acondK_bool]
 exact abortP ((post_same rfl).2 h)
theorem mustN (A : AHeap) : acl C 124 [.d (.bool false)] A = none := pcl_no pxNo (mustF A (R := fun _ _ => True) trivial)
theorem i64_wrap (n : Int) : i64 (IntKind.i64.wrap n) := by
 exact i64_of_wf (Go.wf_wrap .i64 n)
def addS (a b : Int) : Int × Int := if ((decide (0 < b) && decide (IntKind.i64.wrap (a + b) < a)) || (decide (b < 0) && decide (a < IntKind.i64.wrap (a + b)))) = true then (0, 3) else (IntKind.i64.wrap (a + b), 0)
theorem addP (a b : Int) (A : AHeap) : acl C 214 [.d (.int .i64 a), .d (.int .i64 b)] A = some (.tuple [.d (.int .i64 (addS a b).1), .d (.int .i64 (addS a b).2)], A) := by
 rw [k_call (c := C) (f := 214) rfl Tryz.func214 rfl (ok 214 (by kernel_rfl)) rfl Tryz.ntmps214 Tryz.results214 (by simp)]
 unfold addS
 cases h1 : decide (0 < b) with
 | true =>
   cases h2 : decide (IntKind.i64.wrap (a + b) < a) with
   | true => simp (maxSteps := 1000000) only [go_sem, acondK_bool, h1, h2]
   | false =>
     cases h3 : decide (b < 0) with
     | true =>
       cases h4 : decide (a < IntKind.i64.wrap (a + b)) with
       | true => simp (maxSteps := 1000000) only [go_sem, acondK_bool, h1, h2, h3, h4]
       | false => simp (maxSteps := 1000000) only [go_sem, acondK_bool, h1, h2, h3, h4]
     | false => simp (maxSteps := 1000000) only [go_sem, acondK_bool, h1, h2, h3]
 | false =>
   cases h3 : decide (b < 0) with
   | true =>
     cases h4 : decide (a < IntKind.i64.wrap (a + b)) with
     | true => simp (maxSteps := 1000000) only [go_sem, acondK_bool, h1, h3, h4]
     | false => simp (maxSteps := 1000000) only [go_sem, acondK_bool, h1, h3, h4]
   | false => simp (maxSteps := 1000000) only [go_sem, acondK_bool, h1, h3]
def subS (a b : Int) : Int × Int := if ((decide (0 < b) && decide (a < IntKind.i64.wrap (a - b))) || (decide (b < 0) && decide (IntKind.i64.wrap (a - b) < a))) = true then (0, 3) else (IntKind.i64.wrap (a - b), 0)
theorem subP (a b : Int) (A : AHeap) : acl C 215 [.d (.int .i64 a), .d (.int .i64 b)] A = some (.tuple [.d (.int .i64 (subS a b).1), .d (.int .i64 (subS a b).2)], A) := by
 rw [k_call (c := C) (f := 215) rfl Tryz.func215 rfl (ok 215 (by kernel_rfl)) rfl Tryz.ntmps215 Tryz.results215 (by simp)]
 unfold subS
 cases h1 : decide (0 < b) with
 | true =>
   cases h2 : decide (a < IntKind.i64.wrap (a - b)) with
   | true => simp (maxSteps := 1000000) only [go_sem, acondK_bool, h1, h2]
   | false =>
     cases h3 : decide (b < 0) with
     | true =>
       cases h4 : decide (IntKind.i64.wrap (a - b) < a) with
       | true => simp (maxSteps := 1000000) only [go_sem, acondK_bool, h1, h2, h3, h4]
       | false => simp (maxSteps := 1000000) only [go_sem, acondK_bool, h1, h2, h3, h4]
     | false => simp (maxSteps := 1000000) only [go_sem, acondK_bool, h1, h2, h3]
 | false =>
   cases h3 : decide (b < 0) with
   | true =>
     cases h4 : decide (IntKind.i64.wrap (a - b) < a) with
     | true => simp (maxSteps := 1000000) only [go_sem, acondK_bool, h1, h3, h4]
     | false => simp (maxSteps := 1000000) only [go_sem, acondK_bool, h1, h3, h4]
   | false => simp (maxSteps := 1000000) only [go_sem, acondK_bool, h1, h3]
def negS (a : Int) : Int × Int := if decide (a = -9223372036854775808) = true then (0, 3) else (IntKind.i64.wrap (0 - a), 0)
theorem negP (a : Int) (A : AHeap) : acl C 188 [.d (.int .i64 a)] A = some (.tuple [.d (.int .i64 (negS a).1), .d (.int .i64 (negS a).2)], A) := by
 rw [k_call (c := C) (f := 188) rfl Tryz.func188 rfl (ok 188 (by kernel_rfl)) rfl Tryz.ntmps188 Tryz.results188 (by simp)]
 unfold negS
 cases h1 : decide (a = -9223372036854775808) with
 | true => simp (maxSteps := 1000000) only [go_sem, acondK_bool, h1]
 | false => simp (maxSteps := 1000000) only [go_sem, acondK_bool, h1]
def mulS (a b : Int) : Int × Int :=
 if (decide (a = 0) || decide (b = 0)) = true then (0, 0) else if decide (a = -1) = true then negS b else if decide (b = -1) = true then negS a
 else if decide (IntKind.i64.wrap (Int.tdiv (IntKind.i64.wrap (a * b)) b) = a) = true then (IntKind.i64.wrap (a * b), 0) else (0, 3)
theorem mulP (a b : Int) (A : AHeap) : acl C 216 [.d (.int .i64 a), .d (.int .i64 b)] A = some (.tuple [.d (.int .i64 (mulS a b).1), .d (.int .i64 (mulS a b).2)], A) := by
 have n1 := negP a A
 have n2 := negP b A
 rw [k_call (c := C) (f := 216) rfl Tryz.func216 rfl (ok 216 (by kernel_rfl)) rfl Tryz.ntmps216 Tryz.results216 (by simp)]
 unfold mulS
 cases h1 : decide (a = 0) with
 | true => simp (maxSteps := 1000000) only [go_sem, acondK_bool, h1]
 | false =>
 cases h2 : decide (b = 0) with
 | true => simp (maxSteps := 1000000) only [go_sem, acondK_bool, h1, h2]
 | false =>
 cases h3 : decide (a = -1) with
 | true => simp (maxSteps := 1000000) only [go_sem, acondK_bool, h1, h2, h3, n2]
 | false =>
 cases h4 : decide (b = -1) with
 | true => simp (maxSteps := 1000000) only [go_sem, acondK_bool, h1, h2, h3, h4, n1]
 | false =>
 have h2' : ¬ b = 0 := of_decide_eq_false h2
 cases h5 : decide (IntKind.i64.wrap (Int.tdiv (IntKind.i64.wrap (a * b)) b) = a) with
 | true => simp (maxSteps := 1000000) only [go_sem, acondK_bool, h1, h2, h3, h4, h5, b_iquo h2']
 | false => simp (maxSteps := 1000000) only [go_sem, acondK_bool, h1, h2, h3, h4, h5, b_iquo h2']
def divS (a b : Int) : Int × Int :=
 if decide (b = 0) = true then (0, 4) else if decide (b = -1) = true then negS a
 else if decide (a.tmod b = 0) = true then (IntKind.i64.wrap (a.tdiv b), 0)
 else if (decide (a < 0) == decide (b < 0)) = true then (IntKind.i64.wrap (a.tdiv b), 0) else (IntKind.i64.wrap (IntKind.i64.wrap (a.tdiv b) - 1), 0)
theorem divP (a b : Int) (A : AHeap) : acl C 217 [.d (.int .i64 a), .d (.int .i64 b)] A = some (.tuple [.d (.int .i64 (divS a b).1), .d (.int .i64 (divS a b).2)], A) := by
 have n1 := negP a A
 rw [k_call (c := C) (f := 217) rfl Tryz.func217 rfl (ok 217 (by kernel_rfl)) rfl Tryz.ntmps217 Tryz.results217 (by simp)]
 unfold divS
 cases h1 : decide (b = 0) with
 | true => simp (maxSteps := 1000000) only [go_sem, acondK_bool, h1]
 | false =>
 have h1' : ¬ b = 0 := of_decide_eq_false h1
 cases h2 : decide (b = -1) with
 | true => simp (maxSteps := 1000000) only [go_sem, acondK_bool, h1, h2, n1]
 | false =>
 cases h3 : decide (a.tmod b = 0) with
 | true => simp (maxSteps := 1000000) only [go_sem, acondK_bool, h1, h2, h3, b_iquo h1', b_irem h1']
 | false =>
 cases h4 : decide (a < 0) with
 | true =>
   cases h5 : decide (b < 0) with
   | true => simp (maxSteps := 1000000) only [go_sem, acondK_bool, h1, h2, h3, h4, h5, b_iquo h1', b_irem h1']
   | false => simp (maxSteps := 1000000) only [go_sem, acondK_bool, h1, h2, h3, h4, h5, b_iquo h1', b_irem h1']
 | false =>
   cases h5 : decide (b < 0) with
   | true => simp (maxSteps := 1000000) only [go_sem, acondK_bool, h1, h2, h3, h4, h5, b_iquo h1', b_irem h1']
   | false => simp (maxSteps := 1000000) only [go_sem, acondK_bool, h1, h2, h3, h4, h5, b_iquo h1', b_irem h1']
def modS (a b : Int) : Int × Int :=
 if decide (b = 0) = true then (0, 4) else if decide (b = -1) = true then (0, 0)
 else if decide (a.tmod b = 0) = true then (a.tmod b, 0)
 else if (decide (a.tmod b < 0) == decide (b < 0)) = true then (a.tmod b, 0) else (IntKind.i64.wrap (a.tmod b + b), 0)
theorem modP (a b : Int) (A : AHeap) : acl C 218 [.d (.int .i64 a), .d (.int .i64 b)] A = some (.tuple [.d (.int .i64 (modS a b).1), .d (.int .i64 (modS a b).2)], A) := by
 rw [k_call (c := C) (f := 218) rfl Tryz.func218 rfl (ok 218 (by kernel_rfl)) rfl Tryz.ntmps218 Tryz.results218 (by simp)]
 unfold modS
 cases h1 : decide (b = 0) with
 | true => simp (maxSteps := 1000000) only [go_sem, acondK_bool, h1]
 | false =>
 have h1' : ¬ b = 0 := of_decide_eq_false h1
 cases h2 : decide (b = -1) with
 | true => simp (maxSteps := 1000000) only [go_sem, acondK_bool, h1, h2]
 | false =>
 cases h3 : decide (a.tmod b = 0) with
 | true => simp (maxSteps := 1000000) only [go_sem, acondK_bool, h1, h2, h3, b_irem h1']
 | false =>
 cases h4 : decide (a.tmod b < 0) with
 | true =>
   cases h5 : decide (b < 0) with
   | true => simp (maxSteps := 1000000) only [go_sem, acondK_bool, h1, h2, h3, h4, h5, b_irem h1']
   | false => simp (maxSteps := 1000000) only [go_sem, acondK_bool, h1, h2, h3, h4, h5, b_irem h1']
 | false =>
   cases h5 : decide (b < 0) with
   | true => simp (maxSteps := 1000000) only [go_sem, acondK_bool, h1, h2, h3, h4, h5, b_irem h1']
   | false => simp (maxSteps := 1000000) only [go_sem, acondK_bool, h1, h2, h3, h4, h5, b_irem h1']
inductive Oc where
 | ok (v : Vl)
 | stop (s : Stp)
def Vl.av (v : Vl) : AV := .agg [.d (.int .i64 v.kind), .d (.int .i64 v.n), .d (.str v.s)]
def Ans (f : FuncId) (args : List AV) (A : AHeap) : Oc → Prop
 | .ok v => acl C f args A = some (v.av, A)
 | .stop s => ∀ R : PR, R s.av A → pcl C px f args A R
theorem integerP (n : Int) (A : AHeap) : acl C 166 [.d (.int .i64 n)] A = some ((⟨1, n, []⟩ : Vl).av, A) := by
 rw [k_call (c := C) (f := 166) rfl Tryz.func166 rfl (ok 166 (by kernel_rfl)) rfl Tryz.ntmps166 Tryz.results166 (by simp)]
 simp (maxSteps := 1000000) only [go_sem, acondK_bool, Vl.av]
def truthV (b : Bool) : Vl := ⟨3, if b then 1 else 0, []⟩
theorem truthP (b : Bool) (A : AHeap) : acl C 189 [.d (.bool b)] A = some ((truthV b).av, A) := by
 rw [k_call (c := C) (f := 189) rfl Tryz.func189 rfl (ok 189 (by kernel_rfl)) rfl Tryz.ntmps189 Tryz.results189 (by simp)]
 cases b with
 | true => simp (maxSteps := 1000000) only [go_sem, acondK_bool, Vl.av, truthV]
 | false => simp (maxSteps := 1000000) only [go_sem, acondK_bool, Vl.av, truthV]
def textS (s : Bytes) : Oc := if decide (64 < (s.length : Int)) = true then .stop (abt 1006) else .ok ⟨2, 0, s⟩
theorem textP (s : Bytes) (A : AHeap) : Ans 190 [.d (.str s)] A (textS s) := by
 unfold textS
 cases h : decide (64 < (s.length : Int)) with
 | true =>
   intro R hR
   refine k_pan (c := C) (f := 190) rfl Tryz.func190 rfl (ok 190 (by kernel_rfl)) rfl Tryz.ntmps190 Tryz.results190 (by simp) ?_
   simp (maxSteps := 1000000) only [go_sem, acondK_bool, h]
   exact abortP ((post_same rfl).2 hR)
 | false =>
   simp only [Bool.false_eq_true, if_false]
   change acl _ _ _ _ = _
   rw [k_call (c := C) (f := 190) rfl Tryz.func190 rfl (ok 190 (by kernel_rfl)) rfl Tryz.ntmps190 Tryz.results190 (by simp)]
   simp (maxSteps := 1000000) only [go_sem, acondK_bool, h, Vl.av]
def exactS (r : Int × Int) : Oc := if decide (r.2 = 0) = true then .ok ⟨1, r.1, []⟩ else if decide (r.2 = 4) = true then .stop (abt 1002) else .stop (abt 1001)
theorem exactP (r : Int × Int) (A : AHeap) : Ans 187 [.d (.int .i64 r.1), .d (.int .i64 r.2)] A (exactS r) := by
 obtain ⟨a, b⟩ := r
 unfold exactS
 have i1 := integerP a A
 cases h : decide (b = 0) with
 | true =>
   simp only [h, if_true]
   change acl _ _ _ _ = _
   rw [k_call (c := C) (f := 187) rfl Tryz.func187 rfl (ok 187 (by kernel_rfl)) rfl Tryz.ntmps187 Tryz.results187 (by simp)]
   simp (maxSteps := 1000000) only [go_sem, acondK_bool, h, i1, Vl.av]
 | false =>
   cases h2 : decide (b = 4) with
   | true =>
     simp only [h, h2, Bool.false_eq_true, if_true, if_false]
     intro R hR
     refine k_pan (c := C) (f := 187) rfl Tryz.func187 rfl (ok 187 (by kernel_rfl)) rfl Tryz.ntmps187 Tryz.results187 (by simp) ?_
     simp (maxSteps := 1000000) only [go_sem, acondK_bool, h, h2]
     exact abortP ((post_same rfl).2 hR)
   | false =>
     simp only [h, h2, Bool.false_eq_true, if_true, if_false]
     intro R hR
     refine k_pan (c := C) (f := 187) rfl Tryz.func187 rfl (ok 187 (by kernel_rfl)) rfl Tryz.ntmps187 Tryz.results187 (by simp) ?_
     simp (maxSteps := 1000000) only [go_sem, acondK_bool, h, h2]
     exact abortP ((post_same rfl).2 hR)
theorem ans_ok {f : FuncId} {args : List AV} {A : AHeap} {v : Vl} (h : Ans f args A (.ok v)) : acl C f args A = some (.agg [.d (.int .i64 v.kind), .d (.int .i64 v.n), .d (.str v.s)], A) := h
theorem ans_no {f : FuncId} {args : List AV} {A : AHeap} {s : Stp} (h : Ans f args A (.stop s)) : acl C f args A = none := pcl_no pxNo (h (fun _ _ => True) trivial)
def arithS (op a b : Int) : Oc := exactS (if decide (op = 4) = true then addS a b else if decide (op = 5) = true then subS a b else if decide (op = 6) = true then mulS a b else if decide (op = 7) = true then divS a b else modS a b)
theorem arithP (op a b : Int) (A : AHeap) : Ans 193 [.d (.int .i64 op), .d (.int .i64 a), .d (.int .i64 b)] A (arithS op a b) := by
 unfold arithS
 cases h1 : decide (op = 4) with
 | true =>
   have p := addP a b A
   have e := exactP (addS a b) A
   simp only [if_true]
   cases ho : exactS (addS a b) with
   | ok v => rw [ho] at e; have e := ans_ok e; change acl _ _ _ _ = _; rw [k_call (c := C) (f := 193) rfl Tryz.func193 rfl (ok 193 (by kernel_rfl)) rfl Tryz.ntmps193 Tryz.results193 (by simp)]; simp (maxSteps := 1000000) only [go_sem, acondK_bool, h1, p, e, Vl.av]
   | stop s => rw [ho] at e; intro R hR; refine k_pan (c := C) (f := 193) rfl Tryz.func193 rfl (ok 193 (by kernel_rfl)) rfl Tryz.ntmps193 Tryz.results193 (by simp) ?_; simp (maxSteps := 1000000) only [go_sem, acondK_bool, h1, p, ans_no e]; exact e _ ((post_same (f := 193) rfl).2 hR)
 | false =>
 cases h2 : decide (op = 5) with
 | true =>
   have p := subP a b A
   have e := exactP (subS a b) A
   simp only [if_true, Bool.false_eq_true, if_false]
   cases ho : exactS (subS a b) with
   | ok v => rw [ho] at e; have e := ans_ok e; change acl _ _ _ _ = _; rw [k_call (c := C) (f := 193) rfl Tryz.func193 rfl (ok 193 (by kernel_rfl)) rfl Tryz.ntmps193 Tryz.results193 (by simp)]; simp (maxSteps := 1000000) only [go_sem, acondK_bool, h1, h2, p, e, Vl.av]
   | stop s => rw [ho] at e; intro R hR; refine k_pan (c := C) (f := 193) rfl Tryz.func193 rfl (ok 193 (by kernel_rfl)) rfl Tryz.ntmps193 Tryz.results193 (by simp) ?_; simp (maxSteps := 1000000) only [go_sem, acondK_bool, h1, h2, p, ans_no e]; exact e _ ((post_same (f := 193) rfl).2 hR)
 | false =>
 cases h3 : decide (op = 6) with
 | true =>
   have p := mulP a b A
   have e := exactP (mulS a b) A
   simp only [if_true, Bool.false_eq_true, if_false]
   cases ho : exactS (mulS a b) with
   | ok v => rw [ho] at e; have e := ans_ok e; change acl _ _ _ _ = _; rw [k_call (c := C) (f := 193) rfl Tryz.func193 rfl (ok 193 (by kernel_rfl)) rfl Tryz.ntmps193 Tryz.results193 (by simp)]; simp (maxSteps := 1000000) only [go_sem, acondK_bool, h1, h2, h3, p, e, Vl.av]
   | stop s => rw [ho] at e; intro R hR; refine k_pan (c := C) (f := 193) rfl Tryz.func193 rfl (ok 193 (by kernel_rfl)) rfl Tryz.ntmps193 Tryz.results193 (by simp) ?_; simp (maxSteps := 1000000) only [go_sem, acondK_bool, h1, h2, h3, p, ans_no e]; exact e _ ((post_same (f := 193) rfl).2 hR)
 | false =>
 cases h4 : decide (op = 7) with
 | true =>
   have p := divP a b A
   have e := exactP (divS a b) A
   simp only [if_true, Bool.false_eq_true, if_false]
   cases ho : exactS (divS a b) with
   | ok v => rw [ho] at e; have e := ans_ok e; change acl _ _ _ _ = _; rw [k_call (c := C) (f := 193) rfl Tryz.func193 rfl (ok 193 (by kernel_rfl)) rfl Tryz.ntmps193 Tryz.results193 (by simp)]; simp (maxSteps := 1000000) only [go_sem, acondK_bool, h1, h2, h3, h4, p, e, Vl.av]
   | stop s => rw [ho] at e; intro R hR; refine k_pan (c := C) (f := 193) rfl Tryz.func193 rfl (ok 193 (by kernel_rfl)) rfl Tryz.ntmps193 Tryz.results193 (by simp) ?_; simp (maxSteps := 1000000) only [go_sem, acondK_bool, h1, h2, h3, h4, p, ans_no e]; exact e _ ((post_same (f := 193) rfl).2 hR)
 | false =>
   have p := modP a b A
   have e := exactP (modS a b) A
   simp only [if_true, Bool.false_eq_true, if_false]
   cases ho : exactS (modS a b) with
   | ok v => rw [ho] at e; have e := ans_ok e; change acl _ _ _ _ = _; rw [k_call (c := C) (f := 193) rfl Tryz.func193 rfl (ok 193 (by kernel_rfl)) rfl Tryz.ntmps193 Tryz.results193 (by simp)]; simp (maxSteps := 1000000) only [go_sem, acondK_bool, h1, h2, h3, h4, p, e, Vl.av]
   | stop s => rw [ho] at e; intro R hR; refine k_pan (c := C) (f := 193) rfl Tryz.func193 rfl (ok 193 (by kernel_rfl)) rfl Tryz.ntmps193 Tryz.results193 (by simp) ?_; simp (maxSteps := 1000000) only [go_sem, acondK_bool, h1, h2, h3, h4, p, ans_no e]; exact e _ ((post_same (f := 193) rfl).2 hR)
def cmpI (a b : Int) : Int := if decide (a < b) = true then -1 else if decide (b < a) = true then 1 else 0
theorem nanP (a : Int) (A : AHeap) : acl C 228 [.d (.int .i64 a)] A = some (.d (.bool false), A) := by
 rw [k_call (c := C) (f := 228) rfl Tryz.func228 rfl (ok 228 (by kernel_rfl)) rfl Tryz.ntmps228 Tryz.results228 (by simp)]
 simp (maxSteps := 1000000) only [go_sem, acondK_bool]
theorem nan64P (a : Int) (A : AHeap) : acl C 247 [.d (.int .i64 a)] A = some (.d (.bool false), A) := by
 rw [k_call (c := C) (f := 247) rfl Tryz.func247 rfl (ok 247 (by kernel_rfl)) rfl Tryz.ntmps247 Tryz.results247 (by simp)]
 simp (maxSteps := 1000000) only [go_sem, acondK_bool]
theorem cmpIP (a b : Int) (A : AHeap) : acl C 232 [.d (.int .i64 a), .d (.int .i64 b)] A = some (.d (.int .i64 (cmpI a b)), A) := by
 have n1 := nanP a A
 have n2 := nanP b A
 rw [k_call (c := C) (f := 232) rfl Tryz.func232 rfl (ok 232 (by kernel_rfl)) rfl Tryz.ntmps232 Tryz.results232 (by simp)]
 unfold cmpI
 cases h1 : decide (a < b) with
 | true => simp (maxSteps := 1000000) only [go_sem, acondK_bool, n1, n2, h1]
 | false =>
 cases h2 : decide (b < a) with
 | true => simp (maxSteps := 1000000) only [go_sem, acondK_bool, n1, n2, h1, h2]
 | false => simp (maxSteps := 1000000) only [go_sem, acondK_bool, n1, n2, h1, h2]
theorem cmpI64P (a b : Int) (A : AHeap) : acl C 241 [.d (.int .i64 a), .d (.int .i64 b)] A = some (.d (.int .i64 (cmpI a b)), A) := by
 have n1 := nan64P a A
 have n2 := nan64P b A
 rw [k_call (c := C) (f := 241) rfl Tryz.func241 rfl (ok 241 (by kernel_rfl)) rfl Tryz.ntmps241 Tryz.results241 (by simp)]
 unfold cmpI
 cases h1 : decide (a < b) with
 | true => simp (maxSteps := 1000000) only [go_sem, acondK_bool, n1, n2, h1]
 | false =>
 cases h2 : decide (b < a) with
 | true => simp (maxSteps := 1000000) only [go_sem, acondK_bool, n1, n2, h1, h2]
 | false => simp (maxSteps := 1000000) only [go_sem, acondK_bool, n1, n2, h1, h2]
theorem cmpB_ext (a b : Bytes) (A : AHeap) : acl C 176 [.d (.str a), .d (.str b)] A = some (.d (.int .i64 (Lib.compareBytes a b)), A) := by
 rw [acl_ext (c := C) (f := 176) (g := cmpFn Lib.compareBytes) rfl]; rfl
theorem cmpBP (a b : Bytes) (A : AHeap) : acl C 148 [.d (.str a), .d (.str b)] A = some (.d (.int .i64 (Lib.compareBytes a b)), A) := by
 have n1 := cmpB_ext a b A
 rw [k_call (c := C) (f := 148) rfl Tryz.func148 rfl (ok 148 (by kernel_rfl)) rfl Tryz.ntmps148 Tryz.results148 (by simp)]
 simp (maxSteps := 1000000) only [go_sem, acondK_bool, n1]
theorem numbersP (a b : Vl) (A : AHeap) : acl C 233 [.agg (a.row.map .d ++ b.row.map .d)] A = some (.d (.int .i64 (cmpI a.n b.n)), A) := by
 have n1 := cmpI64P a.n b.n A
 unfold Vl.row
 rw [k_call (c := C) (f := 233) rfl Tryz.func233 rfl (ok 233 (by kernel_rfl)) rfl Tryz.ntmps233 Tryz.results233 (by simp)]
 simp (maxSteps := 1000000) only [go_sem, acondK_bool, n1]
theorem stringsP (a b : Vl) (A : AHeap) : acl C 234 [.agg (a.row.map .d ++ b.row.map .d)] A = some (.d (.int .i64 (Lib.compareBytes a.s b.s)), A) := by
 have n1 := cmpBP a.s b.s A
 unfold Vl.row
 rw [k_call (c := C) (f := 234) rfl Tryz.func234 rfl (ok 234 (by kernel_rfl)) rfl Tryz.ntmps234 Tryz.results234 (by simp)]
 simp (maxSteps := 1000000) only [go_sem, acondK_bool, n1]
def cmpV (a b : Vl) : Int := if decide (a.kind = b.kind) = true then (if decide (a.n = b.n) = true then Lib.compareBytes a.s b.s else cmpI a.n b.n) else cmpI a.kind b.kind
theorem cmpVP (a b : Vl) (A : AHeap) : acl C 219 [a.av, b.av] A = some (.d (.int .i64 (cmpV a b)), A) := by
 have n1 := cmpIP a.kind b.kind A
 have n2 := numbersP a b A
 have n3 := stringsP a b A
 simp only [Vl.row, List.map_cons, List.map_nil, List.cons_append, List.nil_append] at n2 n3
 rw [k_call (c := C) (f := 219) rfl Tryz.func219 rfl (ok 219 (by kernel_rfl)) rfl Tryz.ntmps219 Tryz.results219 (by simp)]
 unfold cmpV
 cases h1 : decide (a.kind = b.kind) with
 | false => simp (maxSteps := 1000000) only [go_sem, acondK_bool, h1, n1, Vl.av]
 | true =>
 cases h2 : decide (a.n = b.n) with
 | true => simp (maxSteps := 1000000) only [go_sem, acondK_bool, h1, h2, n2, n3, Vl.av]
 | false => simp (maxSteps := 1000000) only [go_sem, acondK_bool, h1, h2, n2, n3, Vl.av]
def cmpR (op c : Int) : Bool := if decide (op = 10) = true then decide (c = 0) else if decide (op = 11) = true then !decide (c = 0) else if decide (op = 12) = true then decide (c < 0) else if decide (op = 13) = true then decide (c ≤ 0) else if decide (op = 14) = true then decide (0 < c) else decide (0 ≤ c)
def cmpOk (op : Int) (a b : Vl) : Bool := decide (a.kind = b.kind) && (decide (a.kind = 1) || decide (a.kind = 2) || (decide (a.kind = 3) && decide (op ≤ 11)))
def compareS (op : Int) (a b : Vl) : Oc := if cmpOk op a b = true then .ok (truthV (cmpR op (cmpV a b))) else .stop (abt 1009)
theorem compareP (op : Int) (a b : Vl) (A : AHeap) : Ans 194 [.d (.int .i64 op), a.av, b.av] A (compareS op a b) := by
 have q := cmpVP a b A
 unfold compareS
 generalize cmpV a b = c at q
 simp only [Vl.av] at q
 have t (x : Bool) := truthP x A
 have m1 := mustT A
 have m2 := mustN A
 cases h1 : decide (a.kind = b.kind) with
 | false =>
   simp only [cmpOk, h1, Bool.and_true, Bool.true_and, Bool.or_true, Bool.true_or, Bool.or_false, Bool.false_or, Bool.false_and, Bool.and_false, Bool.false_eq_true, if_true, if_false]
   intro R hR
   refine k_pan (c := C) (f := 194) rfl Tryz.func194 rfl (ok 194 (by kernel_rfl)) rfl Tryz.ntmps194 Tryz.results194 (by simp) ?_
   simp (maxSteps := 1000000) only [go_sem, acondK_bool, h1, m2, Vl.av]
   exact mustF _ ((post_same (f := 194) rfl).2 hR)
 | true =>
 cases h2 : decide (a.kind = 1) with
 | true =>
   simp only [cmpOk, h1, h2, Bool.and_true, Bool.true_and, Bool.or_true, Bool.true_or, Bool.or_false, Bool.false_or, Bool.false_and, Bool.and_false, Bool.false_eq_true, if_true, if_false]
   change acl _ _ _ _ = _
   unfold cmpR
   cases g10 : decide (op = 10) with
   | true =>
     rw [k_call (c := C) (f := 194) rfl Tryz.func194 rfl (ok 194 (by kernel_rfl)) rfl Tryz.ntmps194 Tryz.results194 (by simp)]
     simp (maxSteps := 1000000) only [go_sem, acondK_bool, h1, h2, g10, m1, q, t, Vl.av]
   | false =>
     cases g11 : decide (op = 11) with
     | true =>
       rw [k_call (c := C) (f := 194) rfl Tryz.func194 rfl (ok 194 (by kernel_rfl)) rfl Tryz.ntmps194 Tryz.results194 (by simp)]
       simp (maxSteps := 1000000) only [go_sem, acondK_bool, h1, h2, g10, g11, m1, q, t, Vl.av]
     | false =>
       cases g12 : decide (op = 12) with
       | true =>
         rw [k_call (c := C) (f := 194) rfl Tryz.func194 rfl (ok 194 (by kernel_rfl)) rfl Tryz.ntmps194 Tryz.results194 (by simp)]
         simp (maxSteps := 1000000) only [go_sem, acondK_bool, h1, h2, g10, g11, g12, m1, q, t, Vl.av]
       | false =>
         cases g13 : decide (op = 13) with
         | true =>
           rw [k_call (c := C) (f := 194) rfl Tryz.func194 rfl (ok 194 (by kernel_rfl)) rfl Tryz.ntmps194 Tryz.results194 (by simp)]
           simp (maxSteps := 1000000) only [go_sem, acondK_bool, h1, h2, g10, g11, g12, g13, m1, q, t, Vl.av]
         | false =>
           cases g14 : decide (op = 14) with
           | true =>
             rw [k_call (c := C) (f := 194) rfl Tryz.func194 rfl (ok 194 (by kernel_rfl)) rfl Tryz.ntmps194 Tryz.results194 (by simp)]
             simp (maxSteps := 1000000) only [go_sem, acondK_bool, h1, h2, g10, g11, g12, g13, g14, m1, q, t, Vl.av]
           | false =>
             rw [k_call (c := C) (f := 194) rfl Tryz.func194 rfl (ok 194 (by kernel_rfl)) rfl Tryz.ntmps194 Tryz.results194 (by simp)]
             simp (maxSteps := 1000000) only [go_sem, acondK_bool, h1, h2, g10, g11, g12, g13, g14, m1, q, t, Vl.av]
 | false =>
 cases h3 : decide (a.kind = 2) with
 | true =>
   simp only [cmpOk, h1, h2, h3, Bool.and_true, Bool.true_and, Bool.or_true, Bool.true_or, Bool.or_false, Bool.false_or, Bool.false_and, Bool.and_false, Bool.false_eq_true, if_true, if_false]
   change acl _ _ _ _ = _
   unfold cmpR
   cases g10 : decide (op = 10) with
   | true =>
     rw [k_call (c := C) (f := 194) rfl Tryz.func194 rfl (ok 194 (by kernel_rfl)) rfl Tryz.ntmps194 Tryz.results194 (by simp)]
     simp (maxSteps := 1000000) only [go_sem, acondK_bool, h1, h2, h3, g10, m1, q, t, Vl.av]
   | false =>
     cases g11 : decide (op = 11) with
     | true =>
       rw [k_call (c := C) (f := 194) rfl Tryz.func194 rfl (ok 194 (by kernel_rfl)) rfl Tryz.ntmps194 Tryz.results194 (by simp)]
       simp (maxSteps := 1000000) only [go_sem, acondK_bool, h1, h2, h3, g10, g11, m1, q, t, Vl.av]
     | false =>
       cases g12 : decide (op = 12) with
       | true =>
         rw [k_call (c := C) (f := 194) rfl Tryz.func194 rfl (ok 194 (by kernel_rfl)) rfl Tryz.ntmps194 Tryz.results194 (by simp)]
         simp (maxSteps := 1000000) only [go_sem, acondK_bool, h1, h2, h3, g10, g11, g12, m1, q, t, Vl.av]
       | false =>
         cases g13 : decide (op = 13) with
         | true =>
           rw [k_call (c := C) (f := 194) rfl Tryz.func194 rfl (ok 194 (by kernel_rfl)) rfl Tryz.ntmps194 Tryz.results194 (by simp)]
           simp (maxSteps := 1000000) only [go_sem, acondK_bool, h1, h2, h3, g10, g11, g12, g13, m1, q, t, Vl.av]
         | false =>
           cases g14 : decide (op = 14) with
           | true =>
             rw [k_call (c := C) (f := 194) rfl Tryz.func194 rfl (ok 194 (by kernel_rfl)) rfl Tryz.ntmps194 Tryz.results194 (by simp)]
             simp (maxSteps := 1000000) only [go_sem, acondK_bool, h1, h2, h3, g10, g11, g12, g13, g14, m1, q, t, Vl.av]
           | false =>
             rw [k_call (c := C) (f := 194) rfl Tryz.func194 rfl (ok 194 (by kernel_rfl)) rfl Tryz.ntmps194 Tryz.results194 (by simp)]
             simp (maxSteps := 1000000) only [go_sem, acondK_bool, h1, h2, h3, g10, g11, g12, g13, g14, m1, q, t, Vl.av]
 | false =>
 cases h4 : decide (a.kind = 3) with
 | false =>
   simp only [cmpOk, h1, h2, h3, h4, Bool.and_true, Bool.true_and, Bool.or_true, Bool.true_or, Bool.or_false, Bool.false_or, Bool.false_and, Bool.and_false, Bool.false_eq_true, if_true, if_false]
   intro R hR
   refine k_pan (c := C) (f := 194) rfl Tryz.func194 rfl (ok 194 (by kernel_rfl)) rfl Tryz.ntmps194 Tryz.results194 (by simp) ?_
   simp (maxSteps := 1000000) only [go_sem, acondK_bool, h1, h2, h3, h4, m2, Vl.av]
   exact mustF _ ((post_same (f := 194) rfl).2 hR)
 | true =>
 cases h5 : decide (op ≤ 11) with
 | false =>
   simp only [cmpOk, h1, h2, h3, h4, h5, Bool.and_true, Bool.true_and, Bool.or_true, Bool.true_or, Bool.or_false, Bool.false_or, Bool.false_and, Bool.and_false, Bool.false_eq_true, if_true, if_false]
   intro R hR
   refine k_pan (c := C) (f := 194) rfl Tryz.func194 rfl (ok 194 (by kernel_rfl)) rfl Tryz.ntmps194 Tryz.results194 (by simp) ?_
   simp (maxSteps := 1000000) only [go_sem, acondK_bool, h1, h2, h3, h4, h5, m2, Vl.av]
   exact mustF _ ((post_same (f := 194) rfl).2 hR)
 | true =>
   simp only [cmpOk, h1, h2, h3, h4, h5, Bool.and_true, Bool.true_and, Bool.or_true, Bool.true_or, Bool.or_false, Bool.false_or, Bool.false_and, Bool.and_false, Bool.false_eq_true, if_true, if_false]
   change acl _ _ _ _ = _
   unfold cmpR
   cases g10 : decide (op = 10) with
   | true =>
     rw [k_call (c := C) (f := 194) rfl Tryz.func194 rfl (ok 194 (by kernel_rfl)) rfl Tryz.ntmps194 Tryz.results194 (by simp)]
     simp (maxSteps := 1000000) only [go_sem, acondK_bool, h1, h2, h3, h4, h5, g10, m1, q, t, Vl.av]
   | false =>
     cases g11 : decide (op = 11) with
     | true =>
       rw [k_call (c := C) (f := 194) rfl Tryz.func194 rfl (ok 194 (by kernel_rfl)) rfl Tryz.ntmps194 Tryz.results194 (by simp)]
       simp (maxSteps := 1000000) only [go_sem, acondK_bool, h1, h2, h3, h4, h5, g10, g11, m1, q, t, Vl.av]
     | false =>
       cases g12 : decide (op = 12) with
       | true =>
         rw [k_call (c := C) (f := 194) rfl Tryz.func194 rfl (ok 194 (by kernel_rfl)) rfl Tryz.ntmps194 Tryz.results194 (by simp)]
         simp (maxSteps := 1000000) only [go_sem, acondK_bool, h1, h2, h3, h4, h5, g10, g11, g12, m1, q, t, Vl.av]
       | false =>
         cases g13 : decide (op = 13) with
         | true =>
           rw [k_call (c := C) (f := 194) rfl Tryz.func194 rfl (ok 194 (by kernel_rfl)) rfl Tryz.ntmps194 Tryz.results194 (by simp)]
           simp (maxSteps := 1000000) only [go_sem, acondK_bool, h1, h2, h3, h4, h5, g10, g11, g12, g13, m1, q, t, Vl.av]
         | false =>
           cases g14 : decide (op = 14) with
           | true =>
             rw [k_call (c := C) (f := 194) rfl Tryz.func194 rfl (ok 194 (by kernel_rfl)) rfl Tryz.ntmps194 Tryz.results194 (by simp)]
             simp (maxSteps := 1000000) only [go_sem, acondK_bool, h1, h2, h3, h4, h5, g10, g11, g12, g13, g14, m1, q, t, Vl.av]
           | false =>
             rw [k_call (c := C) (f := 194) rfl Tryz.func194 rfl (ok 194 (by kernel_rfl)) rfl Tryz.ntmps194 Tryz.results194 (by simp)]
             simp (maxSteps := 1000000) only [go_sem, acondK_bool, h1, h2, h3, h4, h5, g10, g11, g12, g13, g14, m1, q, t, Vl.av]
end Go.Proofs.YtpbdjgdmhfibmaaGreatDoor
