/- The lexer's names: the program's and the reference's tests agree. -/
import Derived.RangeFuncNested
import Derived.RangeFuncBound
import Derived.RangeFuncCalls
import Derived.RangeFuncLeaves
import Derived.Shelf.Abstract
import Derived.Shelf.RegionOpen
import Derived.WalkKit
import Derived.OwnWalkIn
import Derived.TacticsInMore
import Derived.LoopNIn
import Derived.LoopIn
import Derived.Test.YtpbdjgdmhfibmaaGreatDoorProg
import Derived.Test.YtpbdjgdmhfibmaaGreatDoorRows
import Derived.Test.YtpbdjgdmhfibmaaGreatDoorChecked
import Derived.JoinedCond
import Derived.Shelf.Spec.SlicesInsertGrow
import Derived.Test.YtpbdjgdmhfibmaaGreatDoorFacts
import Derived.Test.YtpbdjgdmhfibmaaGreatDoorGenD
import Derived.Test.YtpbdjgdmhfibmaaGreatDoorGenB
import Derived.Test.YtpbdjgdmhfibmaaGreatDoorGenC
set_option linter.all false
namespace Go.Proofs.YtpbdjgdmhfibmaaGreatDoor
open Go.Abs
attribute [local congr] ite_congr
set_option maxRecDepth 100000
theorem leafB {A : AHeap} {a b : Bool} (h : a = b) : some (AV.d (.bool a), A) = some (AV.d (.bool b), A) := by rw [h]
theorem leafI {A : AHeap} {k : IntKind} {a b : Int} (h : a = b) : some (AV.d (.int k a), A) = some (AV.d (.int k b), A) := by rw [h]
@[go_sem] theorem letter (n : Int) (A : AHeap) : acl C 149 [.d (.int .i32 n)] A = some (.d (.bool (decide (97 ≤ n) && decide (n ≤ 122))), A) := by
  rw [kC Tryz.func149 rfl Tryz.ntmps149 Tryz.results149]
  simp +contextual only [go_sem, acondK_bool, afinR_d]
def part (n : Int) : Bool := decide (97 ≤ n) && decide (n ≤ 122) || (decide (48 ≤ n) && decide (n ≤ 57)) || decide (n = 95)
def keywords : List (List UInt8) := [[112, 114, 111, 99], [108, 101, 116], [112, 117, 116], [100, 101, 108, 101, 116, 101], [105, 102], [101, 108, 115, 101], [102, 111, 114], [116, 111], [109, 97, 120], [101, 109, 105, 116], [97, 98, 111, 114, 116], [110, 111, 116], [97, 110, 100], [111, 114], [105, 110, 116], [115, 116, 114], [98, 111, 111, 108], [116, 101, 120, 116], [108, 101, 110], [103, 101, 116, 105, 110, 116], [103, 101, 116, 115, 116, 114], [104, 97, 115], [110, 111, 119], [114, 97, 110, 100, 111, 109], [110, 111, 100, 101]]
@[go_sem] theorem isKeyword (s : List UInt8) (A : AHeap) : acl C 151 [.d (.str s)] A = some (.d (.bool (keywords.contains s)), A) := by
  rw [kC Tryz.func151 rfl Tryz.ntmps151 Tryz.results151]
  simp +contextual only [go_sem, acondK_bool, keywords]
def wlen : List UInt8 → Nat
 | [] => 0
 | b :: l => if part (b.toNat : Int) = true then wlen l + 1 else 0
@[go_sem] theorem word (s : List UInt8) (A : AHeap) (hl : s.length ≤ 1099511627776) : acl C 150 [.d (.str s)] A = some (.d (.int .i64 (wlen s : Nat)), A) := by
  rw [kC Tryz.func150 rfl Tryz.ntmps150 Tryz.results150]
  simp +contextual only [go_sem, acondK_bool]
  refine loop_any (fun _ => [(6, .v (.ptr A.objs.length 0)), (0, .v (.d (.str s)))]) (fun pre => ⟨A.objs ++ [.iter s pre.length], A.bufs⟩) (fun pre suf => some (.d (.int .i64 ((pre.length + wlen suf : Nat) : Int)), A)) s rfl rfl (by simp) ?_
  intro pre suf h ih
  subst h
  cases suf with
  | nil => simp +contextual only [go_sem, acondK_bool, anextO_end, wlen]
  | cons x suf =>
    rcases Nat.lt_or_ge x.toNat 128 with hx | hx
    ·have e : pre.length + 1 = (pre ++ [x]).length := by simp
     have ih' := ih x suf rfl
     rw [← e] at ih'
     simp +contextual only [go_sem, acondK_bool, anextO_low hx, ih']
     refine leafI ?_
     clear ih ih'
     cases hp : part (x.toNat : Int) <;> simp only [wlen, hp, if_true, Bool.false_eq_true, if_false] <;> simp [part] at hp
     all_goals
      repeat' split
      all_goals simp at *
      all_goals omega
    ·obtain ⟨r, w, hr, hn⟩ := anextO_high (A := ⟨A.objs ++ [.iter (pre ++ x :: suf) pre.length], A.bufs⟩) (id := A.objs.length) (pre := pre) (suf := suf) hx
     have h1 : decide ((r : Int) ≤ 122) = false := by simp; omega
     have h2 : decide ((r : Int) = 95) = false := by simp; omega
     have h3 : decide ((57 : Int) < (r : Int)) = true := by simp; omega
     have h4 : part (x.toNat : Int) = false := by simp [part]; omega
     simp +contextual only [go_sem, acondK_bool, hn, h1, h2, h3, h4, wlen]
def isName (s : List UInt8) : Bool := match s with
 | [] => false
 | b :: l => decide (((b :: l).length : Int) ≤ 16) && (decide (97 ≤ (b.toNat : Int)) && decide ((b.toNat : Int) ≤ 122)) && decide ((wlen (b :: l) : Int) = ((b :: l).length : Int)) && !keywords.contains (b :: l)
@[go_sem] theorem isName_eq (s : List UInt8) (A : AHeap) (hl : s.length ≤ 1099511627776) : acl C 110 [.d (.str s)] A = some (.d (.bool (isName s)), A) := by
  rw [kC Tryz.func110 rfl Tryz.ntmps110 Tryz.results110]
  cases s with
  | nil => simp +contextual only [go_sem, acondK_bool, isName]
  | cons b l =>
    simp only [List.length_cons] at hl
    simp +contextual only [go_sem, acondK_bool, isName, hl]
end Go.Proofs.YtpbdjgdmhfibmaaGreatDoor
namespace Go.Proofs.YtpbdjgdmhfibmaaGreatDoor
open Go.Abs
attribute [local congr] ite_congr
def ar (n : Int) : Int := if n < 1 ∨ 27 < n then -1 else if n ≤ 3 ∨ 25 ≤ n then 0 else if n = 9 ∨ n = 18 ∨ 20 ≤ n then 1 else 2
theorem leaf {A : AHeap} {a b : Int} (h : a = b) : some (AV.d (.int .i64 a), A) = some (AV.d (.int .i64 b), A) := by rw [h]
set_option maxRecDepth 100000 in
@[go_sem] theorem arity (n : Int) (A : AHeap) : acl C 229 [.d (.int .i64 n)] A = some (.d (.int .i64 (ar n)), A) := by
  rw [kC Tryz.func229 rfl Tryz.ntmps229 Tryz.results229]
  simp +contextual only [go_sem, acondK_bool]
  repeat' (refine way (fun h => ?_) (fun h => ?_))
  all_goals
   refine leaf ?_
   simp at *
   unfold ar
   repeat' split
   all_goals omega
set_option maxRecDepth 100000
theorem ifnot {b x : Bool} : (if b = true then false else x) = (!b && x) := by cases b <;> rfl
abbrev eV (op n : Int) (s : Bytes) (args : List (List Dat)) : AV := .agg [.d (.int .i64 op), .d (.int .i64 n), .d (.str s), .d (.slice args)]
def absentS (op n : Int) (s : Bytes) (len : Nat) : Bool := decide (op = 0) && decide (n = 0) && (s == []) && decide ((len : Int) = 0)
@[go_sem] theorem absent (op n : Int) (s : Bytes) (args : List (List Dat)) (A : AHeap) : acl C 178 [eV op n s args] A = some (.d (.bool (absentS op n s args.length)), A) := by
  rw [kC Tryz.func178 rfl Tryz.ntmps178 Tryz.results178]
  simp +contextual only [go_sem, acondK_bool, absentS]
def inner (b : UInt8) : Bool := !(decide ((b.toNat : Int) < 32) || decide (126 < (b.toNat : Int)))
def plainS (s : Bytes) : Bool := s.all inner && decide ((s.length : Int) ≤ 64)
@[go_sem] theorem plain (s : Bytes) (A : AHeap) (hl : s.length ≤ 1099511627776) : acl C 230 [.d (.str s)] A = some (.d (.bool (plainS s)), A) := by
  rw [kC Tryz.func230 rfl Tryz.ntmps230 Tryz.results230]
  simp +contextual only [go_sem, acondK_bool]
  refine loop_list (fun n => [(0, .v (.d (.str s))), (3, .v (.d (.int .i64 (n : Int))))]) (fun pre suf => some (.d (.bool (suf.all inner && decide ((s.length : Int) ≤ 64))), A)) s rfl (by simp [plainS]) ?_
  intro pre suf h ih
  subst h
  have hb : pre.length < 9223372036854775807 := by simp at hl; omega
  cases suf with
  | nil => simp +contextual only [go_sem, acondK_bool]
  | cons x suf =>
    simp +contextual only [go_sem, acondK_bool, ih x suf rfl, wrap_nat hb]
    refine leafB ?_
    cases hx : inner x <;> simp [hx] <;> simp [inner] at hx <;> omega
def nodeS (op n : Int) (s : Bytes) (len : Nat) (depth : Int) : Int :=
 if (decide (ar op < 0) || !decide (op = 1) && !decide (n = 0) || !decide (op = 2) && !decide (op = 3) && !(s == [])) = true then 1
 else if (decide (op = 3) && !isName s) = true then 7
 else if (decide (op = 1) && decide (n < 0) || decide (op = 2) && !plainS s || !decide ((len : Int) = ar op)) = true then 1
 else if 12 < depth then 2 else 0
@[go_sem] theorem node (op n depth : Int) (s : Bytes) (args : List (List Dat)) (A : AHeap) (hl : s.length ≤ 1099511627776) : acl C 209 [eV op n s args, .d (.int .i64 depth)] A = some (.d (.int .i64 (nodeS op n s args.length depth)), A) := by
  rw [kC Tryz.func209 rfl Tryz.ntmps209 Tryz.results209]
  simp (maxSteps := 1000000) +contextual only [go_sem, acondK_bool, hl]
  refine leafI ?_
  simp only [nodeS, ifnot]
  split <;> rename_i h1
  ·rfl
  split <;> rename_i h2
  ·rfl
  split <;> rename_i h3
  ·rfl
  simp
abbrev E.av (e : E) : AV := eV e.op e.n e.s (e.args.map E.row)
mutual
def chkE : E → Int → Int
 | .mk op n s args, d => if nodeS op n s args.length d = 0 then chkL args (IntKind.i64.wrap (d + 1)) else nodeS op n s args.length d
def chkL : List E → Int → Int
 | [], _ => 0
 | x :: l, d => if chkE x d = 0 then chkL l d else chkE x d
end
theorem check : ∀ e, E.Ok e → ∀ (d : Int) (A : AHeap), acl C 179 [E.av e, .d (.int .i64 d)] A = some (.d (.int .i64 (chkE e d)), A) := by
 intro e
 induction e using E.ind with
 | h op n s args ih =>
   intro hok d A
   rw [kC Tryz.func179 rfl Tryz.ntmps179 Tryz.results179]
   simp +contextual only [go_sem, acondK_bool, hok.s]
   refine way (fun h => ?_) (fun h => ?_)
   ·refine loop_list (fun i => [(17, .v (.d (.int .i64 (args.length : Nat)))), (16, .v (.d (.slice (args.map E.row)))), (1, .v (.d (.int .i64 d))), (18, .v (.d (.int .i64 (i : Int))))])
     (fun pre suf => some (.d (.int .i64 (chkL suf (IntKind.i64.wrap (d + 1)))), A)) args rfl (by simp at h; simp [chkE, h]) ?_
    intro pre suf hl ih2
    have hb : pre.length < 9223372036854775807 := by have := hok.len; rw [hl] at this; simp at this; omega
    rw [hl]
    cases suf with
    | nil => simp +contextual only [go_sem, acondK_bool, chkL]
    | cons x suf =>
      have hx : x ∈ args := by rw [hl]; simp
      have e1 := ih x hx (hok.arg x hx) (IntKind.i64.wrap (d + 1)) A
      have e2 := ih2 x suf rfl
      rw [hl] at e2
      simp only [List.length_append, List.length_cons] at e2
      simp +contextual only [go_sem, acondK_bool, E.row_eq, e1, e2, wrap_nat hb, chkL]
      refine leafI ?_
      simp
   ·refine leafI ?_
    simp at h
    simp [chkE, h]
end Go.Proofs.YtpbdjgdmhfibmaaGreatDoor
namespace Go.Proofs.YtpbdjgdmhfibmaaGreatDoor
open Go.Abs
mutual
def datB : Dat → Dat → Bool
 | .bool a, .bool b => a == b
 | .int k n, .int k' m => decide (k = k') && decide (n = m)
 | .str a, .str b => a == b
 | .slice r, .slice s => rowsB r s
 | .nil, .nil => true
 | _, _ => false
def rowsB : List (List Dat) → List (List Dat) → Bool
 | [], [] => true
 | r :: l, s :: m => rowB r s && rowsB l m
 | _, _ => false
def rowB : List Dat → List Dat → Bool
 | [], [] => true
 | x :: l, y :: m => datB x y && rowB l m
 | _, _ => false
end
mutual
theorem datB_eq : ∀ a b : Dat, datB a b = true → a = b
 | .bool a, b, h => by cases b <;> simp [datB] at h; rw [h]
 | .int k n, b, h => by cases b <;> simp [datB] at h; rw [h.1, h.2]
 | .str a, b, h => by cases b <;> simp [datB] at h; rw [h]
 | .slice r, b, h => by
   cases b <;> simp only [datB] at h <;> first | (rw [rowsB_eq _ _ h]) | cases h
 | .nil, b, h => by cases b <;> simp [datB] at h; rfl
theorem rowsB_eq : ∀ a b : List (List Dat), rowsB a b = true → a = b
 | [], b, h => by cases b <;> simp [rowsB] at h; rfl
 | r :: l, b, h => by
   cases b with
   | nil => simp [rowsB] at h
   | cons s m =>
     simp only [rowsB, Bool.and_eq_true] at h
     rw [rowB_eq _ _ h.1, rowsB_eq _ _ h.2]
theorem rowB_eq : ∀ a b : List Dat, rowB a b = true → a = b
 | [], b, h => by cases b <;> simp [rowB] at h; rfl
 | x :: l, b, h => by
   cases b with
   | nil => simp [rowB] at h
   | cons y m =>
     simp only [rowB, Bool.and_eq_true] at h
     rw [datB_eq _ _ h.1, rowB_eq _ _ h.2]
end
def cellD : List AV → Option (List Dat)
 | [] => some []
 | .d x :: l => (cellD l).map (x :: ·)
 | _ => none
theorem cellD_eq : ∀ {l : List AV} {ds : List Dat}, cellD l = some ds → l = ds.map .d
 | [], ds, h => by cases h; rfl
 | x :: l, ds, h => by
   cases x <;> simp only [cellD] at h <;> try (cases h; done)
   rw [Option.map_eq_some_iff] at h
   obtain ⟨d, h1, rfl⟩ := h
   rw [cellD_eq h1]
   rfl
def wkP : List Dat := [.str [112], .slice [], .slice [[.int .i64 3, .str [], .int .i64 0, .int .i64 2, .int .i64 0, .str [97], .slice [], .int .i64 1, .int .i64 1, .str [], .slice [], .slice [], .slice []]]]
def wkT : List Dat := [.int .i64 1, .str [112], .slice [], .bool false, .slice [], .slice [[.str [97]]], .int .i64 1]
def wkS : List Dat := [.str [97], .int .i64 1, .int .i64 1, .str []]
def wkE : List Dat := [.int .i64 1, .int .i64 0, .slice [], .slice [], .slice [[.str [97]]], .slice [wkS], .str [], .int .i64 1]
def wkR : AV := .tuple [.d (.slice [wkS]), .agg (wkE.map .d)]
def oneK : List AV → Option AV
 | [.d a, .d b, .agg cs] => match cellD cs with
   | some ds => if (datB a (.slice [wkP]) && (datB b (.slice []) && rowB ds wkT)) = true then some wkR else none
   | none => none
 | _ => none
theorem oneK_eq {xs : List AV} {x : AV} (h : oneK xs = some x) : xs = [.d (.slice [wkP]), .d (.slice []), .agg (wkT.map .d)] ∧ x = wkR := by
 unfold oneK at h
 split at h
 ·rename_i a b cs
  split at h
  ·rename_i ds hds
   split at h
   ·rename_i hc
    cases h
    simp only [Bool.and_eq_true] at hc
    rw [datB_eq _ _ hc.1, datB_eq _ _ hc.2.1, cellD_eq hds, rowB_eq _ _ hc.2.2]
    exact ⟨rfl, rfl⟩
   ·cases h
  ·cases h
 ·cases h
def oneO : AFun := fun args A => match oneK (acleanVs A args).1 with
 | some x => some (x, (acleanVs A args).2)
 | none => none
def extE (f : Nat) : Option AFun := bif Nat.beq f 57 then some oneO else bif Nat.beq f 176 then some (cmpFn Lib.compareBytes) else bif Nat.beq f 31 then some (cloneFn 4) else none
noncomputable def EW : ACtx := { P := Tryz.prog, esc := escT, own := fun f => [53, 134, 95, 137, 66, 141, 132].contains f, live := fun _ _ => none, ext := extE, nilT := fun t => Nat.beq t 166 }
set_option maxRecDepth 1000000 in
theorem work0 : acl EW 12 [] A00 = some (.d (.bool true), A00) := bcl_sound (ok := okL.contains) okOf (n := 300) (by kernel_rfl)
end Go.Proofs.YtpbdjgdmhfibmaaGreatDoor
namespace Go.Proofs.YtpbdjgdmhfibmaaGreatDoor
open Go.RowKit Go.Shelf
open Go.Abs (E RelD Dat Bytes)
attribute [local go_sem] Oper.semAt_some
theorem room_of_none {F : Fence} (hd : F.depth = none) (k : Nat) : F.room k := fun d h => by rw [hd] at h; cases h
theorem RoundIn.anyDepth {F : Fence} (hd : F.depth = none) {m m' : Nat} {P : Program} {l : Nat} {f : FuncId} {tmps : Array Value} {assign body : Code} {w : World} {R : Ending → World → Prop}
  (h : RoundIn F m P l f tmps assign body w R) : RoundIn F m' P l f tmps assign body w R := ⟨h.1, fun c cs _ => h.2 c cs (room_of_none hd _)⟩
theorem YieldAt.anyDepth {F : Fence} (hd : F.depth = none) {m : Nat} (m' : Nat) {P : Program} {l : Nat} {args : Array Value} {W : World} {R : Ending → World → Prop} (h : YieldAt F m P l args W R) : YieldAt F m' P l args W R := by
 obtain ⟨fn, tmps, assign, body, hy, hR⟩ := h
 exact ⟨fn, tmps, assign, body, hy, RoundIn.anyDepth hd hR⟩
structure Nd where
 op : Int
 n : Int
 s : ByteArray
 a : Option Addr
 len : Nat
 cap : Nat
def Nd.val (x : Nd) : Value := .agg #[.int .i64 x.op, .int .i64 x.n, .string x.s, .slice x.a x.len x.cap]
mutual
def opsE : E → List Int
 | .mk op _ _ args => op :: opsEs args
def opsEs : List E → List Int
 | [] => []
 | x :: l => opsE x ++ opsEs l
end
theorem opsEs_append : ∀ (l m : List E), opsEs (l ++ m) = opsEs l ++ opsEs m
 | [], m => rfl
 | x :: l, m => by simp only [List.cons_append, opsEs, opsEs_append l m, List.append_assoc]
theorem opsEs_split : ∀ (l : List E) (k : Nat) (h : k < l.length), opsEs l = opsEs (l.take k) ++ (opsE l[k] ++ opsEs (l.drop (k + 1)))
 | x :: l, 0, h => by simp [opsEs]
 | x :: l, k + 1, h => by
   have := opsEs_split l k (by simpa using h)
   simp only [opsEs, List.take_succ_cons, List.getElem_cons_succ, List.drop_succ_cons]
   rw [this]
   simp
structure BelS (S : Nat → Prop) (w w' : World) : Prop where
 os : w'.os = w.os
 tape : w'.tape = w.tape
 output : w'.output = w.output
 size : w.heap.size ≤ w'.heap.size
 block : ∀ k, S k → w'.heap[k]? = w.heap[k]?
theorem BelS.trans {S : Nat → Prop} {a b c : World} (h : BelS S a b) (k : BelS S b c) : BelS S a c :=
 ⟨k.os.trans h.os, k.tape.trans h.tape, k.output.trans h.output, Nat.le_trans h.size k.size, fun i hi => (k.block i hi).trans (h.block i hi)⟩
theorem BelS.refl (S : Nat → Prop) (a : World) : BelS S a a := ⟨rfl, rfl, rfl, Nat.le_refl _, fun _ _ => rfl⟩
theorem BelS.of {S : Nat → Prop} {n : Nat} {a b : World} (h : Below n a b) (hS : ∀ k, S k → k < n) : BelS S a b := ⟨h.os, h.tape, h.output, h.size, fun k hk => h.block k (hS k hk)⟩
def bel (S : Nat → Prop) : Nat → Nat → Prop := fun b _ => S b
structure IsE (S : Nat → Prop) (W : World) (e : E) (x : Nd) : Prop where
 op : x.op = e.op
 n : x.n = e.n
 s : x.s.data.toList = e.s
 c3 : RelD W (bel S) (.slice (e.args.map E.row)) (.slice x.a x.len x.cap)
theorem below_relD {S : Nat → Prop} {A B : World} (h : BelS S A B) {d : Dat} {v : Value} (r : RelD A (bel S) d v) : RelD B (bel S) d v :=
 r.mono fun b o hb => ⟨hb, by simp only [World.cell?, h.block b hb]⟩
theorem IsE.below {S : Nat → Prop} {A B : World} (h : BelS S A B) {e : E} {x : Nd} (r : IsE S A e x) : IsE S B e x := ⟨r.op, r.n, r.s, below_relD h r.c3⟩
theorem IsE.form {S : Nat → Prop} {W : World} {e : E} {x : Nd} (r : IsE S W e x) : x.len = e.args.length := by
 have h := r.c3
 generalize hr : e.args.map E.row = rows at h
 generalize hv : Value.slice x.a x.len x.cap = v at h
 cases h with
 | empty a cap =>
   injection hv with _ h2 _
   have := congrArg List.length hr
   rw [h2]
   simpa using this.symm
 | slice _ b o cap sz val hcap hlen hcell hval =>
   injection hv with _ h2 _
   rw [h2, ← hr, List.length_map]
theorem opsE_pos (e : E) : 1 ≤ (opsE e).length := by cases e; simp [opsE]
theorem opsEs_len : ∀ l : List E, l.length ≤ (opsEs l).length
 | [] => Nat.le_refl _
 | x :: l => by
   have h1 := opsE_pos x
   have h2 := opsEs_len l
   simp only [opsEs, List.length_append, List.length_cons]
   omega
theorem IsE.child {S : Nat → Prop} {W : World} {e : E} {x : Nd} (r : IsE S W e x) (hne : e.args ≠ []) : ∃ b o, x.a = some ⟨b, o, none⟩ ∧ S b ∧ ∀ (i : Nat) (y : E), e.args[i]? = some y →
  ∃ z : Nd, IsE S W y z ∧ W.cell? ⟨b, o + i * 4, none⟩ = some (.int .i64 z.op) ∧ W.cell? ⟨b, o + i * 4 + 1, none⟩ = some (.int .i64 z.n) ∧ W.cell? ⟨b, o + i * 4 + 2, none⟩ = some (.string z.s) ∧ W.cell? ⟨b, o + i * 4 + 3, none⟩ = some (.slice z.a z.len z.cap) := by
 have h := r.c3
 generalize hr : e.args.map E.row = rows at h
 generalize hv : Value.slice x.a x.len x.cap = v at h
 cases h with
 | empty a cap => exact absurd (by simpa using hr) hne
 | slice _ b o cap sz val hcap hlen hcell hval =>
   injection hv with hv1 hv2 hv3
   have hsz : sz = 4 := by
    cases ha : e.args with
    | nil => exact absurd ha hne
    | cons y l =>
      have := hlen 0 (E.row y) (by rw [← hr, ha]; rfl)
      rw [← this]
      cases y; rfl
   subst hsz
   have hb : S b := by
    cases ha : e.args with
    | nil => exact absurd ha hne
    | cons y l => exact (hcell 0 0 (E.row y) (.int .i64 y.op) (by rw [← hr, ha]; rfl) (by cases y; rfl)).1
   refine ⟨b, o, hv1, hb, fun i y hy => ?_⟩
   have hrow : rows[i]? = some (E.row y) := by rw [← hr, List.getElem?_map, hy]; rfl
   have g0 : (E.row y)[0]? = some (.int .i64 y.op) := by cases y; rfl
   have g1 : (E.row y)[1]? = some (.int .i64 y.n) := by cases y; rfl
   have g2 : (E.row y)[2]? = some (.str y.s) := by cases y; rfl
   have g3 : (E.row y)[3]? = some (.slice (y.args.map E.row)) := by rw [E.row_eq]; rfl
   have v0 : val i 0 = .int .i64 y.op := by have := hval i 0 _ _ hrow g0; generalize val i 0 = q at this; cases this; rfl
   have v1 : val i 1 = .int .i64 y.n := by have := hval i 1 _ _ hrow g1; generalize val i 1 = q at this; cases this; rfl
   have v2 : ∃ s : ByteArray, val i 2 = .string s ∧ s.data.toList = y.s := by
    have := hval i 2 _ _ hrow g2
    generalize val i 2 = q at this ⊢
    generalize y.s = ys at this ⊢
    cases this with
    | str s => exact ⟨s, rfl, rfl⟩
   have v3 : ∃ a len cap, val i 3 = .slice a len cap := by
    have := hval i 3 _ _ hrow g3
    generalize val i 3 = q at this ⊢
    generalize y.args.map E.row = rr at this
    cases this with
    | empty a cap => exact ⟨a, 0, cap, rfl⟩
    | slice _ b o cap sz val hcap hlen hcell hval => exact ⟨_, _, _, rfl⟩
   obtain ⟨zs, v2, hzs⟩ := v2
   obtain ⟨za, zl, zc, v3⟩ := v3
   have h0 := (hcell i 0 _ _ hrow g0).2
   have h1 := (hcell i 1 _ _ hrow g1).2
   have h2 := (hcell i 2 _ _ hrow g2).2
   have h3 := (hcell i 3 _ _ hrow g3).2
   have r3 := hval i 3 _ _ hrow g3
   rw [v0] at h0
   rw [v1] at h1
   rw [v2] at h2
   rw [v3] at h3 r3
   exact ⟨⟨y.op, y.n, zs, za, zl, zc⟩, ⟨rfl, rfl, hzs, r3⟩, h0, h1, h2, h3⟩
structure Kp (S : Nat → Prop) (n₁ : Nat) (A B : World) : Prop where
 low : BelS S A B
 own : ∀ (k : Nat) (o : Obj), n₁ ≤ k → A.heap[k]? = some o → o.isCells = true → B.heap[k]? = some o
theorem Kp.trans {S : Nat → Prop} {n₁ : Nat} {A B C : World} (h : Kp S n₁ A B) (k : Kp S n₁ B C) : Kp S n₁ A C := ⟨h.low.trans k.low, fun i o hi ho hc => k.own i o hi (h.own i o hi ho hc) hc⟩
theorem Kp.of_below {S : Nat → Prop} {n₁ : Nat} {A B : World} (h : Below A.heap.size A B) (hn : ∀ k, S k → k < A.heap.size) : Kp S n₁ A B := ⟨BelS.of h hn, fun k o _ ho _ => by
 have hk : k < A.heap.size := by
  rcases Nat.lt_or_ge k A.heap.size with h' | h'
  ·exact h'
  ·rw [Array.getElem?_eq_none h'] at ho; cases ho
 rw [h.block k hk]; exact ho⟩
theorem Kp.cell {S : Nat → Prop} {n₁ : Nat} {A B : World} (h : Kp S n₁ A B) {a : Addr} {v : Value} (hn : n₁ ≤ a.block) (hc : A.cell? a = some v) : B.cell? a = some v := by
 obtain ⟨o, ho, hcc⟩ := cells_of_cell hc
 have := h.own _ o hn ho hcc
 unfold World.cell? at hc ⊢
 rw [this]
 rw [ho] at hc
 exact hc
theorem abides_below {β : Type} {B : Nat} {J : β → World → Prop} (h : AbidesFrom B J) {s : β} {A C : World} (hj : J s A) (hb : Below A.heap.size A C) : J s C :=
 h s A C none hj ⟨hb.os, hb.tape, hb.output, hb.size, fun k hk _ => hb.block k hk⟩ (fun r e => by cases e)
set_option maxRecDepth 100000 in
set_option maxHeartbeats 2000000 in
theorem visit_in (F : Fence) (hd : F.depth = none) (h40 : F.fn 186) (hro : F.round = none) (l : Nat) (S : Nat → Prop) (n₁ N : Nat) (J Jx : List Nd → World → Prop) (Bj : Nat) (hJ : AbidesFrom Bj J) (hNb : N ≤ 1099511627776)
  (hY : ∀ m pre x W, J pre W → pre.length < N → YieldAt F m Tryz.prog l #[x.val] W fun e W' =>
   (e = .returned (.bool true) ∧ J (pre ++ [x]) W' ∧ Kp S n₁ W W') ∨ (e = .returned (.bool false) ∧ Jx (pre ++ [x]) W')) (e : E) :
  ∀ (n : Nat) (x : Nd) (pre : List Nd) (W : World), (∀ k, S k → k < W.heap.size) → n₁ ≤ W.heap.size → IsE S W e x → J pre W → pre.length + (opsE e).length ≤ N →
    CallsIn F n Tryz.prog 186 #[x.val, .func (.yield l) #[] #[]] W fun en W' =>
     (en = .returned (.bool true) ∧ (∃ ys, ys.map Nd.op = opsE e ∧ J (pre ++ ys) W') ∧ Kp S n₁ W W') ∨ (en = .returned (.bool false) ∧ ∃ q, q.map Nd.op <+: opsE e ∧ Jx (pre ++ q) W') := by
 induction e using Go.Abs.E.ind with
 | h op nn s args ih =>
   intro n x pre W hn₀ hn₁ hE hJ0 hN
   have hdd : ∀ k : Nat, (F.depth.isSome = true → 1 ≤ k) := fun k h => by rw [hd] at h; cases h
   obtain ⟨xop, xn, xs, sa, len, cap⟩ := x
   have hop : xop = op := hE.op
   subst hop
   have hlen0 : len = args.length := hE.form
   subst hlen0
   refine callsIn_of_wp Tryz.func186 rfl h40 ?_ hro
   simp only [Tryz.ntmps186, List.size_toArray, List.length_cons, List.length_nil, Nat.reduceAdd, Nat.reduceSub, Array.replicate_succ, Array.replicate_zero, List.push_toArray, List.append_toArray, List.nil_append, List.cons_append]
   have hbox : Below W.heap.size W (W.alloc (.cells #[.int .i64 xop, .int .i64 xn, .string xs, .slice sa args.length cap] 62)) := (Below.refl _ W).alloc (Nat.le_refl _) _
   have hJ1 := abides_below hJ hJ0 hbox
   have hl1 : pre.length < N := by simp only [opsE, List.length_cons] at hN; omega
   have hY1 := hY (n - 1) pre ⟨xop, xn, xs, sa, args.length, cap⟩ _ hJ1 hl1
   obtain ⟨fn, tmps, assign, body, hy, hR⟩ := hY1
   dsimp only [Nd.val] at hy ⊢
   have hb0 : (W.alloc (.cells #[.int .i64 xop, .int .i64 xn, .string xs, .slice sa args.length cap] 62)).cell? ⟨W.heap.size, 3, none⟩ = some (.slice sa args.length cap) := by have := World.alloc_heap_new W (.cells #[.int .i64 xop, .int .i64 xn, .string xs, .slice sa args.length cap] 62); unfold World.cell?; rw [this]; rfl
   have hlen : args.length ≤ 1099511627776 := by have := opsEs_len args; simp only [opsE, List.length_cons] at hN; omega
   gi_wp2_with (first
    | ((try refine ⟨hdd _, ?_⟩); refine hR.mono ?_; clear hR; rintro en W2 (⟨rfl, hJ2, hk2⟩ | ⟨rfl, hx2⟩); have hb2 := hk2.cell (a := ⟨W.heap.size, 3, none⟩) hn₁ hb0))
   ·gi_loopw [14] (fun i wr => ∃ k : Nat, k ≤ args.length ∧ i = .int .i64 k ∧ (∃ ys, ys.map Nd.op = xop :: opsEs (args.take k) ∧ J (pre ++ ys) wr) ∧ Kp S n₁ W wr)
     (fun i _ => args.length - (intOf i).toNat)
    case atStart => exact ⟨0, Nat.zero_le _, rfl, ⟨[⟨xop, xn, xs, sa, args.length, cap⟩], by simp [opsEs], hJ2⟩, (Kp.of_below hbox hn₀).trans hk2⟩
    case round =>
     obtain ⟨k, hk, rfl, ⟨ys, hys, hJs⟩, hkr⟩ := hrel
     by_cases hlt : k < args.length
     ·obtain ⟨b, o, hsl, hbn, hch⟩ := (hE.below hkr.low).child (by intro e; simp only [Go.Abs.E.args] at e; rw [e] at hlt; simp at hlt)
      dsimp only [Go.Abs.E.args] at hsl hch
      subst hsl
      obtain ⟨⟨zop, zn, zs, za, zl, zcap⟩, hz, g0, g1, g2, g3⟩ := hch k (args[k]) (List.getElem?_eq_getElem hlt)
      dsimp only at g0 g1 g2 g3
      gi_wp2
      have hal : Below wr.heap.size wr (wr.alloc (.cells #[.int .i64 zop, .int .i64 zn, .string zs, .slice za zl zcap] 62)) := (Below.refl _ wr).alloc (Nat.le_refl _) _
      have hsp := opsEs_split args k hlt
      have hys' := congrArg List.length hys
      have hsp' := congrArg List.length hsp
      simp only [List.length_map, List.length_append, List.length_cons] at hys' hsp'
      have hcall := ih args[k] (List.getElem_mem hlt) (n - 1) ⟨zop, zn, zs, za, zl, zcap⟩ (pre ++ ys) _
       (fun k hk => Nat.lt_of_lt_of_le (hn₀ k hk) (Nat.le_trans hkr.low.size hal.size)) (Nat.le_trans (Nat.le_trans hn₁ hkr.low.size) hal.size) (hz.below (BelS.of hal (fun k hk => Nat.lt_of_lt_of_le (hn₀ k hk) hkr.low.size)))
       (abides_below hJ hJs hal) (by simp only [opsE, List.length_cons] at hN; rw [List.length_append]; omega)
      refine hcall.mono ?_
      rintro en W3 (⟨rfl, ⟨zs', hzs, hJ3⟩, hk3⟩ | ⟨rfl, q, hq, hx3⟩)
      ·gi_wp2
       go_roundw
       case rel =>
        refine ⟨k + 1, by omega, by simp, ⟨ys ++ zs', ?_, by rw [← List.append_assoc]; exact hJ3⟩, hkr.trans ((Kp.of_below hal (fun k hk => Nat.lt_of_lt_of_le (hn₀ k hk) hkr.low.size)).trans hk3)⟩
        rw [List.map_append, hys, hzs, List.take_succ_eq_append_getElem hlt, opsEs_append]
        simp [opsEs]
       case measure => simp [intOf]; omega
      ·gi_wp2
       refine bodyPost_ret (results_tmp rfl _ _ _) rfl ?_
       refine .inr ⟨rfl, ys ++ q, ?_, by rw [← List.append_assoc]; exact hx3⟩
       rw [List.map_append, hys, opsE, hsp]
       obtain ⟨r, hr⟩ := hq
       exact ⟨r ++ opsEs (args.drop (k + 1)), by rw [← hr]; simp⟩
     ·obtain rfl : k = args.length := by omega
      gi_wp2
      go_ret
      refine .inl ⟨rfl, ⟨ys, ?_, hJs⟩, hkr⟩
      rw [hys, List.take_length, opsE]
   ·go_ret
    exact .inr ⟨rfl, [⟨xop, xn, xs, sa, args.length, cap⟩], ⟨opsEs args, by simp [opsE]⟩, hx2⟩
end Go.Proofs.YtpbdjgdmhfibmaaGreatDoor
namespace Go.Proofs.YtpbdjgdmhfibmaaGreatDoor
open Go.RowKit Go.Shelf
open Go.Abs (E RelD Dat Bytes)
attribute [local go_sem] Oper.semAt_some
set_option maxHeartbeats 1000000 in
theorem nodes_in (F : Fence) (n : Nat) (h21 : F.fn 160) (hro : F.round = none) (x : Nd) (w : World) :
  CallsIn F n Tryz.prog 160 #[x.val] w fun e w' => e = .returned (.func (.func 185) #[] #[.pointer (some ⟨w.heap.size, 0, none⟩)]) ∧ w' = w.alloc (.cells #[.int .i64 x.op, .int .i64 x.n, .string x.s, .slice x.a x.len x.cap] 62) := by
 dsimp only [Nd.val]
 refine callsIn_of_wp Tryz.func160 rfl h21 ?_ hro
 simp only [Tryz.ntmps160, List.size_toArray, List.length_cons, List.length_nil, Nat.reduceAdd, Nat.reduceSub, Array.replicate_succ, Array.replicate_zero, List.push_toArray, List.append_toArray, List.nil_append, List.cons_append]
 gi_wp2
 go_ret
 exact ⟨rfl, rfl⟩
def Box4 (W : World) (B : Nat) (x : Nd) : Prop := W.heap[B]? = some (.cells #[.int .i64 x.op, .int .i64 x.n, .string x.s, .slice x.a x.len x.cap] 62 (0, 0))
theorem Box4.lt {W : World} {B : Nat} {x : Nd} (h : Box4 W B x) : B < W.heap.size := (Array.getElem?_eq_some_iff.1 h).1
theorem Box4.new (W : World) (x : Nd) : Box4 (W.alloc (.cells #[.int .i64 x.op, .int .i64 x.n, .string x.s, .slice x.a x.len x.cap] 62)) W.heap.size x := World.alloc_heap_new W _
theorem Box4.cell {W : World} {B : Nat} {x : Nd} (h : Box4 W B x) : W.cell? ⟨B, 0, none⟩ = some (.int .i64 x.op) ∧ W.cell? ⟨B, 1, none⟩ = some (.int .i64 x.n) ∧ W.cell? ⟨B, 2, none⟩ = some (.string x.s) ∧ W.cell? ⟨B, 3, none⟩ = some (.slice x.a x.len x.cap) := by
 unfold Box4 at h
 refine ⟨?_, ?_, ?_, ?_⟩ <;> simp [World.cell?, h]
theorem Box4.below {n : Nat} {A B : World} {b : Nat} {x : Nd} (h : Box4 A b x) (hb : Below n A B) (hn : b < n) : Box4 B b x := (hb.block b hn).trans h
theorem Box4.kept {W W' : World} {row : Option Nat} {B : Nat} {x : Nd} (h : Box4 W B x) (hg : W.grownBy W' row) (hr : ∀ r, row = some r → ∃ o : Obj, W.heap[r]? = some o ∧ o.isCells = false) : Box4 W' B x := by
 refine (hg.block B h.lt (fun e => ?_)).trans h
 obtain ⟨o, ho, hc⟩ := hr B e.symm
 unfold Box4 at h
 rw [h] at ho
 cases ho
 cases hc
theorem Kp.put {S : Nat → Prop} {n₁ : Nat} {w : World} (hn : ∀ k, S k → k < w.heap.size) (W : World) (l : Nat) (o o' : Obj) (hl : w.heap.size ≤ l) (h : W.heap[l]? = some o) (hc : o.isCells = false) (hw : o.isWalk = false) : Kp S n₁ W (W.putObj l o') :=
 ⟨BelS.of (belowK_b (Nat.le_refl _) W l o o' hl h hc hw) hn, fun k u _ hk hu => by
  have hne : k ≠ l := by
   rintro rfl
   rw [h] at hk
   cases hk
   rw [hc] at hu
   cases hu
  exact (World.putObj_heap_other (fun e => hne e)).trans hk⟩
set_option maxRecDepth 100000 in
set_option maxHeartbeats 2000000 in
theorem nodes_stops (F : Fence) (hd : F.depth = none) (n : Nat) (h39 : F.fn 185) (h40 : F.fn 186) (hro : F.round = none) (Bt : Nat) (S : Nat → Prop) (n₁ : Nat) (e : E) (x : Nd) (w : World) (hBt : Box4 w Bt x) (hn₀ : ∀ k, S k → k < w.heap.size) (hn₁ : n₁ ≤ w.heap.size) (hE : IsE S w e x) (hN : (opsE e).length ≤ 1099511627776) :
  SeqStopsK F n Tryz.prog 185 #[.pointer (some ⟨Bt, 0, none⟩)] (fun x : Nd => #[x.val]) (Kp S n₁) (fun ys => ys.map Nd.op = opsE e) (fun pre => pre.map Nd.op <+: opsE e) (opsE e).length w := by
 intro l J Jx W hW hJ hJx hY h0
 have hdd : ∀ k : Nat, (F.depth.isSome = true → 1 ≤ k) := fun k h => by rw [hd] at h; cases h
 have hB := hBt.below hW hBt.lt
 obtain ⟨c0, c1, c2, c3⟩ := hB.cell
 have hv := visit_in F hd h40 hro l S n₁ (opsE e).length J Jx _ hJ hN (fun m pre x W hj hl => YieldAt.anyDepth hd m (hY pre x W hj hl)) e (n - 1) x [] W (fun k hk => Nat.lt_of_lt_of_le (hn₀ k hk) hW.size) (Nat.le_trans hn₁ hW.size) (hE.below (BelS.of hW hn₀)) h0 (by simp)
 refine callsIn_of_wp Tryz.func185 rfl h39 ?_ hro
 simp only [Tryz.ntmps185, List.size_toArray, List.length_cons, List.length_nil, Nat.reduceAdd, Nat.reduceSub, Array.replicate_succ, Array.replicate_zero, List.push_toArray, List.append_toArray, List.nil_append, List.cons_append]
 dsimp only [Nd.val] at hv
 gi_wp2_with ((try refine ⟨hdd _, ?_⟩); gi_at_call 186; refine hv.mono ?_; clear hv; rintro en W1 (⟨rfl, ⟨ys, hys, hJ1⟩, _⟩ | ⟨rfl, q, hq, hx⟩))
 ·go_end0
  exact ⟨⟨_, rfl⟩, .inl ⟨ys, hys, by simpa using hJ1⟩⟩
 ·go_end0
  exact ⟨⟨_, rfl⟩, .inr ⟨q, hq, by simpa using hx⟩⟩
end Go.Proofs.YtpbdjgdmhfibmaaGreatDoor
namespace Go.Proofs.YtpbdjgdmhfibmaaGreatDoor
open Go.RowKit Go.Shelf
open Go.Abs (E RelD Dat Bytes)
attribute [local go_sem] Oper.semAt_some
def ndS (op : Int) : Bool := decide (op = 25) || decide (op = 26) || decide (op = 27)
def rdS (op : Int) : Bool := decide (op = 22) || decide (op = 23) || decide (op = 24)
set_option maxHeartbeats 1000000 in
theorem nd_in (F : Fence) (n : Nat) (h : F.fn 161) (hro : F.round = none) (op : Int) (w : World) :
  CallsIn F n Tryz.prog 161 #[.int .i64 op] w fun e w' => e = .returned (.bool (ndS op)) ∧ w' = w := by
 refine callsIn_of_wp Tryz.func161 rfl h ?_ hro
 simp only [Tryz.ntmps161, List.size_toArray, List.length_cons, List.length_nil, Nat.reduceAdd, Nat.reduceSub, Array.replicate_succ, Array.replicate_zero, List.push_toArray, List.append_toArray, List.nil_append, List.cons_append]
 by_cases h1 : op = 25
 ·subst h1; gi_wp2; go_ret; exact ⟨rfl, rfl⟩
 by_cases h2 : op = 26
 ·subst h2; gi_wp2; go_ret; exact ⟨rfl, rfl⟩
 by_cases h3 : op = 27
 ·subst h3; gi_wp2; go_ret; exact ⟨rfl, rfl⟩
 gi_wp2
 go_ret
 exact ⟨by simp [ndS, h1, h2, h3], rfl⟩
end Go.Proofs.YtpbdjgdmhfibmaaGreatDoor
namespace Go.Proofs.YtpbdjgdmhfibmaaGreatDoor
open Go.RowKit Go.Shelf
open Go.Abs (E RelD Dat Bytes)
attribute [local go_sem] Oper.semAt_some
end Go.Proofs.YtpbdjgdmhfibmaaGreatDoor
namespace Go.Proofs.YtpbdjgdmhfibmaaGreatDoor
open Go.RowKit Go.Shelf
open Go.Abs (E RelD Dat Bytes)
attribute [local go_sem] Oper.semAt_some
end Go.Proofs.YtpbdjgdmhfibmaaGreatDoor
namespace Go.Proofs.YtpbdjgdmhfibmaaGreatDoor
open Go.RowKit Go.Shelf
open Go.Abs (E RelD Dat Bytes WRel RelV Ev EvV CallPost AHeap AV Gh Rest RelL)
attribute [local go_sem] Oper.semAt_some
def fstS : List Int → Nat → Int × Int × Bool
 | [], _ => (0, 0, false)
 | x :: l, n => if ndS x = true then (x, (n : Int), true) else fstS l (n + 1)
theorem fstS_app : ∀ (pre l : List Int) (n : Nat), pre.any ndS = false → fstS (pre ++ l) n = fstS l (n + pre.length)
 | [], l, n, _ => rfl
 | x :: pre, l, n, h => by
   rw [List.any_cons, Bool.or_eq_false_iff] at h
   rw [List.cons_append, fstS, if_neg (by simp [h.1]), fstS_app pre l (n + 1) h.2, List.length_cons]
   congr 1
   omega
theorem fstS_none (l : List Int) (n : Nat) (h : l.any ndS = false) : fstS l n = (0, 0, false) := by
 have := fstS_app l [] n h
 rw [List.append_nil] at this
 rw [this]
 rfl
def mark (D : Nat) : Deferred := { target := .collected D, args := #[] }
def Marks (W : World) (Ds : List Nat) : Prop := Ds.Nodup ∧ ∀ D ∈ Ds, W.heap[D]? = some (.deferred (some []))
theorem leaves_marks {F : Fence} {n : Nat} {P : Program} {fn : Func} {tmps : Array Value} {R : Ending → World → Prop} : ∀ (Ds : List Nat) (W : World), Marks W Ds →
  (∀ W', (∀ b, b ∉ Ds → W'.heap[b]? = W.heap[b]?) → W'.heap.size = W.heap.size → W'.os = W.os → W'.output = W.output → LeavesIn F n P fn tmps R [] .returning W') → LeavesInM F n P fn tmps R (Ds.map mark) .returning W
 | [], W, _, h => h W (fun _ _ => rfl) rfl rfl rfl
 | D :: Ds, W, hm, h => by
   obtain ⟨h1, h2⟩ := hm
   rw [List.nodup_cons] at h1
   refine ⟨by simp, .inl ⟨D, _, rfl, run_takeDeferred (h2 D (List.mem_cons_self ..)), ?_⟩⟩
   refine leaves_marks Ds _ ⟨h1.2, fun D' hD' => ?_⟩ fun W' hb hs ho hu => ?_
   ·have hne : D' ≠ D := fun e => h1.1 (e ▸ hD')
    exact (World.putObj_heap_other hne).trans (h2 D' (List.mem_cons_of_mem _ hD'))
   ·refine h W' (fun b hb' => ?_) ?_ (ho.trans rfl) (hu.trans rfl)
    ·rw [List.mem_cons, not_or] at hb'
     exact (hb b hb'.2).trans (World.putObj_heap_other hb'.1)
    ·rw [hs]; simp [World.putObj]
theorem below_ev {W W' : World} {g : Gh} {A : AHeap} (hw : WRel W g A) (hb : Below W.heap.size W W') : WRel W' g A ∧ Ev W g A W' g A :=
 ⟨hw.grown hb.size (fun b h => hb.block b h) ⟨hb.os, hb.output⟩, Ev.grown hw hb.size (fun b h => hb.block b h) ⟨hb.os, hb.output⟩⟩
theorem dInt {W : World} {g : Gh} {A : AHeap} {k : IntKind} {m : Int} {v : Value} (h : RelV W g A (.d (.int k m)) v) : v = .int k m := by
 cases h with
 | d _ _ h => cases h; rfl
theorem dSlice {W : World} {g : Gh} {A : AHeap} {rows : List (List Dat)} {v : Value} (h : RelV W g A (.d (.slice rows)) v) : RelD W g.S (.slice rows) v := by
 cases h with
 | d _ _ h => exact h
theorem cells3 {W : World} {B t : Nat} {c0 c1 c2 : Value} (h : W.heap[B]? = some (.cells #[c0, c1, c2] t (0, 0))) : W.cell? ⟨B, 0, none⟩ = some c0 ∧ W.cell? ⟨B, 1, none⟩ = some c1 ∧ W.cell? ⟨B, 2, none⟩ = some c2 := by
 refine ⟨?_, ?_, ?_⟩ <;> simp [World.cell?, h]
theorem cells3a {W : World} {B t : Nat} {c0 c1 c2 : Value} (o : Obj) (h : W.heap[B]? = some (.cells #[c0, c1, c2] t (0, 0))) : (W.alloc o).heap[B]? = some (.cells #[c0, c1, c2] t (0, 0)) :=
 (Below.heap_alloc W o B (Array.getElem?_eq_some_iff.1 h).1).trans h
def Fr (g : Gh) (b : Nat) : Prop := g.own b = none ∧ ∀ o, ¬ g.S b o
theorem fr_new {W : World} {g : Gh} {A : AHeap} (hw : WRel W g A) {b : Nat} (h : W.heap.size ≤ b) : Fr g b := by
 refine ⟨?_, fun o ho => ?_⟩
 ·cases ho : g.own b with
  | none => rfl
  | some o => have := hw.lt b o ho; omega
 ·have := hw.stab b o ho
  omega
theorem fr_ev {W W' : World} {g g' : Gh} {A A' : AHeap} (e : Ev W g A W' g' A') {b : Nat} (h : b < W.heap.size) (hf : Fr g b) : W'.heap[b]? = W.heap[b]? ∧ Fr g' b := by
 obtain ⟨e1, e2, e3⟩ := e.free b h hf.1
 exact ⟨e1, e2, fun o ho => hf.2 o (e3 o ho)⟩
theorem ev_other {w W W' : World} {g g' : Gh} {A : AHeap} (e : Ev w g A W g' A) (hw' : WRel W g' A) (hs : W.heap.size ≤ W'.heap.size) (O : List Nat) (hO : ∀ b ∈ O, w.heap.size ≤ b ∧ Fr g' b)
  (hh : ∀ b, b < W.heap.size → b ∉ O → W'.heap[b]? = W.heap[b]?) (hr : Go.Abs.Rest W W') : WRel W' g' A ∧ Ev w g A W' g' A := by
 have key : ∀ b, (g'.own b ≠ none ∨ ∃ o, g'.S b o) → W'.heap[b]? = W.heap[b]? := by
  intro b hb
  refine hh b ?_ fun hbO => ?_
  ·rcases hb with hb | ⟨o, hb⟩
   ·cases ho : g'.own b with
    | none => exact absurd ho hb
    | some o => exact hw'.lt b o ho
   ·exact hw'.stab b o hb
  ·obtain ⟨_, f1, f2⟩ := hO b hbO
   rcases hb with hb | ⟨o, hb⟩
   ·exact hb f1
   ·exact f2 o hb
 refine ⟨hw'.other hs key hr, ⟨e.toEvV.trans (EvV.other hs key hr), fun b hb ho => ?_⟩⟩
 obtain ⟨e1, e2, e3⟩ := e.free b hb ho
 refine ⟨(hh b (Nat.lt_of_lt_of_le hb e.size) fun hbO => ?_).trans e1, e2, e3⟩
 have := (hO b hbO).1
 omega
theorem belS_own {S : Nat → Prop} {B : Nat} {w0 X Y : World} {row : Option Nat} (h : BelS S w0 X) (hX : ∀ k, S k → k < X.heap.size) (hS : ∀ k, S k → k < B) (hg : X.grownBy Y row) (hr : ∀ r, row = some r → B ≤ r) : BelS S w0 Y :=
 h.trans ⟨hg.os, hg.tape, hg.output, hg.size, fun k hk => hg.block k (hX k hk) (fun e => by have := hr k e.symm; have := hS k hk; omega)⟩
theorem marks_own {B : Nat} {X Y : World} {row : Option Nat} {Ds : List Nat} (h : Marks X Ds) (hB : ∀ D ∈ Ds, D < B) (hg : X.grownBy Y row) (hr : ∀ r, row = some r → B ≤ r) : Marks Y Ds :=
 ⟨h.1, fun D hD => (hg.block D (Array.getElem?_eq_some_iff.1 (h.2 D hD)).1 (fun e => by have := hr D e.symm; have := hB D hD; omega)).trans (h.2 D hD)⟩
theorem marks_set {X : World} {Ds : List Nat} (h : Marks X Ds) (a : Addr) (v : Value) : Marks (X.setCell a v) Ds := ⟨h.1, fun D hD => (KeepsOthers.setCell X a v).same D _ (h.2 D hD) rfl⟩
theorem marks_alloc {X : World} {Ds : List Nat} (h : Marks X Ds) (o : Obj) : Marks (X.alloc o) Ds := ⟨h.1, fun D hD => (KeepsOthers.alloc X o).same D _ (h.2 D hD) rfl⟩
theorem belS_set {S : Nat → Prop} {w0 X : World} (h : BelS S w0 X) {B o : Nat} (hB : ¬ S B) (v : Value) : BelS S w0 (X.setCell ⟨B, o, none⟩ v) :=
 h.trans ⟨rfl, rfl, rfl, by simp [World.setCell], fun k hk => Below.heap_setCell _ _ _ _ (fun e => hB (by have e' : k = B := e; rw [← e']; exact hk))⟩
theorem belS_alloc {S : Nat → Prop} {w0 X : World} (h : BelS S w0 X) (hS : ∀ k, S k → k < w0.heap.size) (o : Obj) : BelS S w0 (X.alloc o) :=
 h.trans ⟨rfl, rfl, rfl, by simp, fun k hk => Below.heap_alloc _ _ _ (Nat.lt_of_lt_of_le (hS k hk) h.size)⟩
theorem BelS.sub {S S' : Nat → Prop} {a b : World} (h : BelS S a b) (hs : ∀ k, S' k → S k) : BelS S' a b := ⟨h.os, h.tape, h.output, h.size, fun k hk => h.block k (hs k hk)⟩
set_option maxRecDepth 100000 in
set_option maxHeartbeats 8000000 in
theorem first_in (n : Nat) (hn : 8 ≤ n) (g : Gh) (A : AHeap) (w : World) (hw : WRel w g A) (px : AV) (c0 c1 c2 : Value) (hv : RelV w g A px (.agg #[c0, c1, c2])) (vs : Int) (roots : List E) (hN : vs = 0 → (opsEs roots).length ≤ 1099511627776)
  (hval : ∀ W g', Ev w g A W g' A → WRel W g' A → RelV W g' A px (.agg #[c0, c1, c2]) → Calls Tryz.prog 71 #[.agg #[c0, c1, c2]] W (CallPost W g' A (.d (.int .i64 vs)) A))
  (hexp : vs = 0 → ∀ W g', Ev w g A W g' A → WRel W g' A → RelV W g' A px (.agg #[c0, c1, c2]) → Calls Tryz.prog 159 #[.agg #[c0, c1, c2]] W (CallPost W g' A (.d (.slice (roots.map E.row))) A))
  (r : Int × Int × Bool) (hr : r = if vs = 0 then fstS (opsEs roots) 0 else (0, 0, false)) :
  CallsIn Fence.wide n Tryz.prog 117 #[.agg #[c0, c1, c2]] w (CallPost w g A (.tuple [.d (.int .i64 r.1), .d (.int .i64 r.2.1), .d (.bool r.2.2)]) A) := by
 have h1 : 1 ≤ n := by omega
 refine callsIn_of_wp_marks Tryz.func117 rfl trivial ?_ rfl
 simp only [Tryz.ntmps117, List.size_toArray, List.length_cons, List.length_nil, Nat.reduceAdd, Nat.reduceSub, Array.replicate_succ, Array.replicate_zero, List.push_toArray, List.append_toArray, List.nil_append, List.cons_append]
 have hB1 : Below w.heap.size w ((((w.alloc (.cells #[c0, c1, c2] 25)).alloc (.cells #[.int .i64 0] 3)).alloc (.cells #[.int .i64 0] 3)).alloc (.cells #[.bool false] 4)) :=
  ((((Below.refl _ w).alloc (Nat.le_refl _) _).alloc (by simp) _).alloc (by simp; omega) _).alloc (by simp; omega) _
 have b1 : ((((w.alloc (.cells #[c0, c1, c2] 25)).alloc (.cells #[.int .i64 0] 3)).alloc (.cells #[.int .i64 0] 3)).alloc (.cells #[.bool false] 4)).heap[w.heap.size]? = some (.cells #[c0, c1, c2] 25 (0, 0)) := by
  rw [Below.heap_alloc _ _ _ (by simp; omega), Below.heap_alloc _ _ _ (by simp; omega), Below.heap_alloc _ _ _ (by simp)]
  exact World.alloc_heap_new w _
 have b2 := (((Boxed.new (w.alloc (.cells #[c0, c1, c2] 25)) 3 (.int .i64 0))).alloc (.cells #[.int .i64 0] 3)).alloc (.cells #[.bool false] 4)
 have b3 := (Boxed.new ((w.alloc (.cells #[c0, c1, c2] 25)).alloc (.cells #[.int .i64 0] 3)) 3 (.int .i64 0)).alloc (.cells #[.bool false] 4)
 have b4 := Boxed.new (((w.alloc (.cells #[c0, c1, c2] 25)).alloc (.cells #[.int .i64 0] 3)).alloc (.cells #[.int .i64 0] 3)) 4 (.bool false)
 simp only [World.size_alloc] at b2 b3 b4
 have hsz1 : ((((w.alloc (.cells #[c0, c1, c2] 25)).alloc (.cells #[.int .i64 0] 3)).alloc (.cells #[.int .i64 0] 3)).alloc (.cells #[.bool false] 4)).heap.size = w.heap.size + 4 := by simp
 obtain ⟨W1, hW1⟩ : ∃ W1, ((((w.alloc (.cells #[c0, c1, c2] 25)).alloc (.cells #[.int .i64 0] 3)).alloc (.cells #[.int .i64 0] 3)).alloc (.cells #[.bool false] 4)) = W1 := ⟨_, rfl⟩
 rw [hW1] at hB1 b1 b2 b3 b4 hsz1
 obtain ⟨hw1, hev1⟩ := below_ev hw hB1
 have hv1 := hev1.toEvV.relV hv
 have hcall1 := callsIn_wide (n := n - 1).2 (hval _ _ hev1 hw1 hv1)
 have fin : ∀ {W2 : World} {g2 : Gh}, Ev W1 g A W2 g2 A → ∀ {b : Nat}, w.heap.size ≤ b → b < W1.heap.size → W2.heap[b]? = W1.heap[b]? ∧ Fr g2 b := fun {W2 g2} e {b} h1 h2 => fr_ev e h2 (fr_new hw h1)
 obtain ⟨k10, k11, k12⟩ := cells3 b1
 by_cases hz : vs = 0
 ·subst hz
  replace hN := hN rfl
  rw [if_pos rfl] at hr
  gi_wp2_with (first
   | (refine ⟨trivial, ?_⟩; gi_at_call 71; refine hcall1.mono ?_; clear hcall1; rintro en W2 ⟨v2, g2, rfl, rv2, hw2, hev2⟩; have e2 := dInt rv2; subst e2
      obtain ⟨p1, f1⟩ := fin hev2 (b := w.heap.size) (Nat.le_refl _) (by omega); obtain ⟨p2, f2⟩ := fin hev2 (b := w.heap.size + 1) (by omega) (by omega); obtain ⟨p3, f3⟩ := fin hev2 (b := w.heap.size + 1 + 1) (by omega) (by omega); obtain ⟨p4, f4⟩ := fin hev2 (b := w.heap.size + 1 + 1 + 1) (by omega) (by omega); rw [b1] at p1
      have q2 : Boxed W2 (w.heap.size + 1) 3 (.int .i64 0) := p2.trans b2
      have q3 : Boxed W2 (w.heap.size + 1 + 1) 3 (.int .i64 0) := p3.trans b3
      have q4 : Boxed W2 (w.heap.size + 1 + 1 + 1) 4 (.bool false) := p4.trans b4
      clear hW1
      have p1a := cells3a (.cells #[.int .i64 0] 3) p1
      obtain ⟨k20, k21, k22⟩ := cells3 p1a
      have hB3 : Below W2.heap.size W2 (W2.alloc (.cells #[.int .i64 0] 3)) := (Below.refl _ _).alloc (Nat.le_refl _) _
      obtain ⟨hw3, hev3⟩ := below_ev hw2 hB3
      have hcall2 := callsIn_wide (n := n - 1).2 (hexp rfl _ _ (hev1.trans (hev2.trans hev3)) hw3 ((hev2.trans hev3).toEvV.relV hv1)))
   | (refine ⟨trivial, ?_⟩; gi_at_call 159; refine hcall2.mono ?_; clear hcall2; rintro en W4 ⟨v4, g4, rfl, rv4, hw4, hev4⟩
      have hD := dSlice rv4
      obtain ⟨sa, sl, sc, hsv⟩ : ∃ a l c, v4 = .slice a l c := by
       generalize roots.map E.row = rr at hD
       cases hD with
       | empty a cap => exact ⟨a, 0, cap, rfl⟩
       | slice _ b o cap sz val hcap hlen hcell hval => exact ⟨_, _, _, rfl⟩
      subst hsv))
  -- the loop over the roots
  obtain ⟨r1, f1⟩ := fr_ev (hev3.trans hev4) (b := w.heap.size) (by have := hev2.size; omega) f1
  obtain ⟨r2, f2⟩ := fr_ev (hev3.trans hev4) (b := w.heap.size + 1) (by have := hev2.size; omega) f2
  obtain ⟨r3, f3⟩ := fr_ev (hev3.trans hev4) (b := w.heap.size + 1 + 1) (by have := hev2.size; omega) f3
  obtain ⟨r4, f4⟩ := fr_ev (hev3.trans hev4) (b := w.heap.size + 1 + 1 + 1) (by have := hev2.size; omega) f4
  obtain ⟨r5, f5⟩ := fr_ev hev4 (b := W2.heap.size) (by simp) (fr_new hw2 (Nat.le_refl _))
  have q2 : Boxed W4 (w.heap.size + 1) 3 (.int .i64 0) := r2.trans q2
  have q3 : Boxed W4 (w.heap.size + 1 + 1) 3 (.int .i64 0) := r3.trans q3
  have q4 : Boxed W4 (w.heap.size + 1 + 1 + 1) 4 (.bool false) := r4.trans q4
  have q5 : Boxed W4 W2.heap.size 3 (.int .i64 0) := r5.trans (Boxed.new W2 3 _)
  have hl2 := q2.lt
  have hl3 := q3.lt
  have hl4 := q4.lt
  have hl5 := q5.lt
  have hge5 : w.heap.size + 1 + 1 + 1 < W2.heap.size := by have := hev2.size; omega
  have hevT : Ev w g A W4 g4 A := ((hev1.trans hev2).trans hev3).trans hev4
  obtain ⟨S, hS⟩ : ∃ S : Nat → Prop, S = fun b => b < W4.heap.size ∧ b ≠ W2.heap.size := ⟨_, rfl⟩
  obtain ⟨S', hS'⟩ : ∃ S' : Nat → Prop, S' = fun b => b < W4.heap.size ∧ b ∉ [w.heap.size + 1, w.heap.size + 1 + 1, w.heap.size + 1 + 1 + 1, W2.heap.size] := ⟨_, rfl⟩
  have hSlt : ∀ k, S k → k < W4.heap.size := fun k hk => by rw [hS] at hk; exact hk.1
  have hSS : ∀ k, S' k → S k := fun k hk => by rw [hS'] at hk; rw [hS]; exact ⟨hk.1, fun e => hk.2 (by simp [e])⟩
  have hSlt' : ∀ k, S' k → k < W4.heap.size := fun k hk => hSlt k (hSS k hk)
  have n5 : ¬ S W2.heap.size := fun h => by rw [hS] at h; exact h.2 rfl
  have n5' : ¬ S' W2.heap.size := fun h => n5 (hSS _ h)
  have n2' : ¬ S' (w.heap.size + 1) := fun h => by rw [hS'] at h; exact h.2 (by simp)
  have n3' : ¬ S' (w.heap.size + 1 + 1) := fun h => by rw [hS'] at h; exact h.2 (by simp)
  have n4' : ¬ S' (w.heap.size + 1 + 1 + 1) := fun h => by rw [hS'] at h; exact h.2 (by simp)
  have s2 : S (w.heap.size + 1) := by rw [hS]; exact ⟨hl2, by omega⟩
  have s3 : S (w.heap.size + 1 + 1) := by rw [hS]; exact ⟨hl3, by omega⟩
  have s4 : S (w.heap.size + 1 + 1 + 1) := by rw [hS]; exact ⟨hl4, by omega⟩
  have hE4 : IsE S W4 (.mk 0 0 [] roots) ⟨0, 0, ⟨#[]⟩, sa, sl, sc⟩ := ⟨rfl, rfl, rfl, hD.mono fun b o hb => ⟨by
   unfold bel
   rw [hS]
   exact ⟨hw4.stab b o hb, fun e => f5.2 o (e ▸ hb)⟩, rfl⟩⟩
  have hsl : sl = roots.length := hE4.form
  subst hsl
  -- how the function is left
  have fin2 : ∀ (tm : Array Value) (ra rb : Int) (rc : Bool) (Ds : List Nat) (Wf : World), tm[2]?.getD undef = .pointer (some ⟨w.heap.size + 1, 0, none⟩) → tm[3]?.getD undef = .pointer (some ⟨w.heap.size + 1 + 1, 0, none⟩) → tm[4]?.getD undef = .pointer (some ⟨w.heap.size + 1 + 1 + 1, 0, none⟩) →
    r = (ra, rb, rc) → Boxed Wf (w.heap.size + 1) 3 (.int .i64 ra) → Boxed Wf (w.heap.size + 1 + 1) 3 (.int .i64 rb) → Boxed Wf (w.heap.size + 1 + 1 + 1) 4 (.bool rc) → BelS S' W4 Wf → Marks Wf Ds → (∀ D ∈ Ds, W4.heap.size ≤ D) →
    LeavesInM Fence.wide n Tryz.prog Tryz.f117 tm (CallPost w g A (.tuple [.d (.int .i64 r.1), .d (.int .i64 r.2.1), .d (.bool r.2.2)]) A) (Ds.map mark) .returning Wf := by
   intro tm ra rb rc Ds Wf t2 t3 t4 hrr h2 h3 h4 hb hM hMb
   refine leaves_marks Ds Wf hM fun W' e1 e2 e3 e4 => ?_
   have hnd : ∀ b, b < W4.heap.size → b ∉ Ds := fun b h hm => by have := hMb b hm; omega
   have c2 : W'.cell? ⟨w.heap.size + 1, 0, none⟩ = some (.int .i64 ra) := (World.cell?_of_block (e1 _ (hnd _ hl2))).trans h2.cell
   have c3 : W'.cell? ⟨w.heap.size + 1 + 1, 0, none⟩ = some (.int .i64 rb) := (World.cell?_of_block (e1 _ (hnd _ hl3))).trans h3.cell
   have c4 : W'.cell? ⟨w.heap.size + 1 + 1 + 1, 0, none⟩ = some (.bool rc) := (World.cell?_of_block (e1 _ (hnd _ hl4))).trans h4.cell
   obtain ⟨hwf, hef⟩ := ev_other hevT hw4 (W' := W') (by rw [e2]; exact hb.size) [w.heap.size + 1, w.heap.size + 1 + 1, w.heap.size + 1 + 1 + 1, W2.heap.size]
    (fun b hb => by
     simp only [List.mem_cons, List.mem_nil_iff, or_false] at hb
     rcases hb with rfl | rfl | rfl | rfl
     ·exact ⟨by omega, f2⟩
     ·exact ⟨by omega, f3⟩
     ·exact ⟨by omega, f4⟩
     ·exact ⟨by omega, f5⟩)
    (fun b h hO => (e1 b (hnd b h)).trans (hb.block b (by rw [hS']; exact ⟨h, hO⟩)))
    ⟨e3.trans hb.os, e4.trans hb.output⟩
   refine ⟨.tuple #[.int .i64 ra, .int .i64 rb, .bool rc], ?_, _, g4, rfl, ?_, hwf, hef⟩
   ·simp [results, Tryz.results117, go_sem, t2, t3, t4, c2, c3, c4]
   ·rw [hrr]
    refine .tuple _ [.int .i64 ra, .int .i64 rb, .bool rc] rfl fun i x v h1 h2 => ?_
    match i with
    | 0 => simp at h1 h2; subst h1; subst h2; exact .d _ _ (.int _ _)
    | 1 => simp at h1 h2; subst h1; subst h2; exact .d _ _ (.int _ _)
    | 2 => simp at h1 h2; subst h1; subst h2; exact .d _ _ (.bool _)
    | i + 3 => simp at h1
  refine wpIn_loop (fun a W => ∃ (k : Nat) (Ds : List Nat) (u7 u16 u17 u18 u19 u20 u30 : Value), a = { tmps := #[.agg #[c0, c1, c2], .pointer (some ⟨w.heap.size, 0, none⟩), .pointer (some ⟨w.heap.size + 1, 0, none⟩), .pointer (some ⟨w.heap.size + 1 + 1, 0, none⟩), .pointer (some ⟨w.heap.size + 1 + 1 + 1, 0, none⟩), .pointer (some ⟨W2.heap.size, 0, none⟩), undef, u7, undef, .agg #[c0, c1, c2], .int .i64 0, .bool false, .agg #[c0, c1, c2], .slice sa roots.length sc, .int .i64 roots.length, .int .i64 k, u16, u17, u18, u19, u20, undef, undef, undef, undef, undef, undef, undef, undef, undef, u30], defers := Ds.map mark } ∧
    k ≤ roots.length ∧ (opsEs (roots.take k)).any ndS = false ∧ Boxed W W2.heap.size 3 (.int .i64 (opsEs (roots.take k)).length) ∧ BelS S W4 W ∧ Marks W Ds ∧ ∀ D ∈ Ds, W4.heap.size ≤ D)
   (fun a _ => roots.length - (intOf (a.tmps[15]?.getD undef)).toNat) ?start ?round
  case start => exact ⟨0, [], undef, undef, undef, undef, undef, undef, undef, rfl, Nat.zero_le _, rfl, q5, BelS.refl _ _, ⟨List.nodup_nil, fun D h => by cases h⟩, fun D h => by cases h⟩
  case round =>
   rintro a W ⟨k, Ds, u7, u16, u17, u18, u19, u20, u30, rfl, hk, hnd, hbx, hbs, hM, hMb⟩
   have hcx := hbx.cell
   have hfx := hbx.frozen
   have hrl : roots.length ≤ 1099511627776 := Nat.le_trans (opsEs_len roots) hN
   by_cases hlt : k < roots.length
   ·obtain ⟨b, o, hsa, hbS, hch⟩ := (hE4.below hbs).child (by intro e; simp only [Go.Abs.E.args] at e; rw [e] at hlt; simp at hlt)
    dsimp only [Go.Abs.E.args] at hsa hch
    subst hsa
    obtain ⟨⟨zop, zn, zs, za, zl, zc⟩, hz, g0, g1, g2', g3⟩ := hch k (roots[k]) (List.getElem?_eq_getElem hlt)
    dsimp only at g0 g1 g2' g3
    have hnodes := fun n w => nodes_in Fence.wide n trivial rfl ⟨zop, zn, zs, za, zl, zc⟩ w
    dsimp only [Nd.val] at hnodes
    gi_wp2_with (refine ⟨trivial, ?_⟩; gi_at_call 160; refine (hnodes _ _).mono ?_; rintro en w' ⟨rfl, rfl⟩)
    have bT := Box4.new (W.alloc (.cells #[.int .i64 zop, .int .i64 zn, .string zs, .slice za zl zc] 62)) ⟨zop, zn, zs, za, zl, zc⟩
    simp only [World.size_alloc] at bT
    have bb := (hbx.alloc (.cells #[.int .i64 zop, .int .i64 zn, .string zs, .slice za zl zc] 62)).alloc (.cells #[.int .i64 zop, .int .i64 zn, .string zs, .slice za zl zc] 62)
    have hbs0 := belS_alloc (belS_alloc hbs hSlt (.cells #[.int .i64 zop, .int .i64 zn, .string zs, .slice za zl zc] 62)) hSlt (.cells #[.int .i64 zop, .int .i64 zn, .string zs, .slice za zl zc] 62)
    have hM0 := marks_alloc (marks_alloc hM (.cells #[.int .i64 zop, .int .i64 zn, .string zs, .slice za zl zc] 62)) (.cells #[.int .i64 zop, .int .i64 zn, .string zs, .slice za zl zc] 62)
    have hszW : ((W.alloc (.cells #[.int .i64 zop, .int .i64 zn, .string zs, .slice za zl zc] 62)).alloc (.cells #[.int .i64 zop, .int .i64 zn, .string zs, .slice za zl zc] 62)).heap.size = W.heap.size + 2 := by simp
    have hzE : IsE S ((W.alloc (.cells #[.int .i64 zop, .int .i64 zn, .string zs, .slice za zl zc] 62)).alloc (.cells #[.int .i64 zop, .int .i64 zn, .string zs, .slice za zl zc] 62)) roots[k] ⟨zop, zn, zs, za, zl, zc⟩ :=
     hz.below (BelS.of (((Below.refl _ W).alloc (Nat.le_refl _) _).alloc (by simp) _) (fun k hk => Nat.lt_of_lt_of_le (hSlt k hk) hbs.size))
    have hDs : ∀ D ∈ Ds, D < W.heap.size := fun D hD => (Array.getElem?_eq_some_iff.1 (hM.2 D hD)).1
    have hW4 := hbs.size
    obtain ⟨W0, hW0⟩ : ∃ W0, (W.alloc (.cells #[.int .i64 zop, .int .i64 zn, .string zs, .slice za zl zc] 62)).alloc (.cells #[.int .i64 zop, .int .i64 zn, .string zs, .slice za zl zc] 62) = W0 := ⟨_, rfl⟩
    rw [hW0] at bT bb hbs0 hM0 hszW hzE ⊢
    clear hW0
    have hsp := opsEs_split roots k hlt
    have hlen : (opsE roots[k]).length ≤ 1099511627776 := by rw [hsp] at hN; simp at hN; omega
    have hlen2 : (opsEs (roots.take k)).length + (opsE roots[k]).length ≤ 1099511627776 := by rw [hsp] at hN; simp at hN; omega
    refine wpIn_rangeFunc_ownH rfl h1 (gf := 185) (lb := #[.pointer (some ⟨W.heap.size + 1, 0, none⟩)]) rfl trivial (enters_of Tryz.func185 (by kernel_rfl) rfl)
     (nodes_stops Fence.wide rfl (n - 1) trivial trivial rfl (W.heap.size + 1) S W0.heap.size roots[k] ⟨zop, zn, zs, za, zl, zc⟩ W0 bT (fun k hk => Nat.lt_of_lt_of_le (hSlt k hk) hbs0.size) (Nat.le_refl _) hzE hlen) Kp.trans (Kp.put (fun k hk => Nat.lt_of_lt_of_le (hSlt k hk) hbs0.size)) (Below.refl _ _) (fun _ => rfl)
     (fun pre W' => (Boxed W' W2.heap.size 3 (.int .i64 ((opsEs (roots.take k)).length + pre.length : Nat)) ∧ (pre.map Nd.op).any ndS = false ∧ W0.heap.size ≤ W'.heap.size ∧ Marks W' Ds) ∧ BelS S W4 W')
     (fun c pre W' => c = .ret ∧ ∃ (q : List Nd) (y : Nd), pre = q ++ [y] ∧ (q.map Nd.op).any ndS = false ∧ ndS y.op = true ∧ (Boxed W' (w.heap.size + 1) 3 (.int .i64 y.op) ∧ Boxed W' (w.heap.size + 1 + 1) 3 (.int .i64 ((opsEs (roots.take k)).length + q.length : Nat)) ∧ Boxed W' (w.heap.size + 1 + 1 + 1) 4 (.bool true)) ∧ (Marks W' Ds ∧ W4.heap.size ≤ W'.heap.size) ∧ BelS S' W4 W')
     (fun s X Y row hs hg hr => ⟨⟨boxed_own _ 3 (fun (_ : Unit) => Value.int .i64 ((opsEs (roots.take k)).length + s.length : Nat)) () X Y row hs.1.1 hg (fun r e => (hr r e).2), hs.1.2.1, Nat.le_trans hs.1.2.2.1 hg.size, marks_own hs.1.2.2.2 (B := W0.heap.size) (fun D hD => by have := hDs D hD; omega) hg (fun r e => (hr r e).1)⟩,
      belS_own hs.2 (fun k hk => Nat.lt_of_lt_of_le (hSlt k hk) hs.2.size) (B := W0.heap.size) (fun k hk => by have := hSlt k hk; omega) hg (fun r e => (hr r e).1)⟩)
     (fun c s X Y row hs hg hr => by
      obtain ⟨rfl, q, y, e1, e2, e3, ⟨e4, e5, e6⟩, ⟨e7, e8⟩, e9⟩ := hs
      exact ⟨rfl, q, y, e1, e2, e3, ⟨boxed_own _ 3 (fun (_ : Unit) => Value.int .i64 y.op) () X Y row e4 hg (fun r e => (hr r e).2), boxed_own _ 3 (fun (_ : Unit) => Value.int .i64 ((opsEs (roots.take k)).length + q.length : Nat)) () X Y row e5 hg (fun r e => (hr r e).2), boxed_own _ 4 (fun (_ : Unit) => Value.bool true) () X Y row e6 hg (fun r e => (hr r e).2)⟩,
       ⟨marks_own e7 (B := W0.heap.size) (fun D hD => by have := hDs D hD; omega) hg (fun r e => (hr r e).1), Nat.le_trans e8 hg.size⟩, belS_own e9 (fun k hk => Nat.lt_of_lt_of_le (hSlt' k hk) e9.size) (B := W0.heap.size) (fun k hk => by have := hSlt' k hk; omega) hg (fun r e => (hr r e).1)⟩)
     ⟨⟨by simpa using bb, rfl, Nat.le_refl _, hM0⟩, hbs0⟩
     (fun y a' W' => ∃ Bx, W0.heap.size ≤ Bx ∧ Box4 W' Bx y ∧ a'.defers = [] ∧ a'.tmps[8]?.getD undef = .pointer (some ⟨Bx, 0, none⟩) ∧ ∃ a20 a21, a' = { tmps := #[.agg #[c0, c1, c2], .pointer (some ⟨w.heap.size, 0, none⟩), .pointer (some ⟨w.heap.size + 1, 0, none⟩), .pointer (some ⟨w.heap.size + 1 + 1, 0, none⟩), .pointer (some ⟨w.heap.size + 1 + 1 + 1, 0, none⟩), .pointer (some ⟨W2.heap.size, 0, none⟩), undef, a20, .pointer (some ⟨Bx, 0, none⟩), .agg #[c0, c1, c2], .int .i64 0, .bool false, .agg #[c0, c1, c2], .slice (some ⟨b, o, none⟩) roots.length sc, .int .i64 roots.length, .int .i64 k, .bool true, .pointer (some ⟨b, o + k * 4, none⟩), .agg #[.int .i64 zop, .int .i64 zn, .string zs, .slice za zl zc], .agg #[.int .i64 zop, .int .i64 zn, .string zs, .slice za zl zc], a21, y.val, undef, undef, undef, undef, undef, undef, undef, undef, u30], defers := [] })
     (fun y a' _ X Y row hs hg hr => by obtain ⟨Bx, h1, h2, h3⟩ := hs; exact ⟨Bx, h1, h2.kept hg (fun r e => (hr r e).2), h3⟩)
     ?assign ?body ?done ?stop
    case assign =>
     rintro l pre ⟨yop, yn, ys, ya, yl, yc⟩ W' K ⟨⟨bR1, hp1, hz1, hm1⟩, hB1⟩ hK
     dsimp only [Nd.val] at hK ⊢
     have hlt' := bR1.lt
     gi_wp2
     have hbel : Below W'.heap.size W' (W'.alloc (.cells #[.int .i64 yop, .int .i64 yn, .string ys, .slice ya yl yc] 62)) := (Below.refl _ W').alloc (Nat.le_refl _) _
     exact hK _ _ ((KeepsOthers.alloc _ _).from _) (Kp.of_below hbel (fun k hk => Nat.lt_of_lt_of_le (hSlt k hk) hB1.size)) ⟨⟨bR1.alloc _, hp1, by simp; omega, marks_alloc hm1 _⟩, belS_alloc hB1 hSlt _⟩ ⟨W'.heap.size, hz1, Box4.new W' ⟨yop, yn, ys, ya, yl, yc⟩, rfl, rfl, _, _, rfl⟩
    case body =>
     rintro l pre ⟨yop, yn, ys, ya, yl, yc⟩ a' W' hl ⟨rr, hrr⟩ ⟨⟨bR1, hp1, hz1, hm1⟩, hB1⟩ ⟨Bx, hBx, bX, -, -, a20, a21, rfl⟩ hlt2
     obtain ⟨cX, _⟩ := bX.cell
     dsimp only at cX
     have cR := bR1.cell
     have fR := bR1.frozen
     have x2 := (show Boxed W' (w.heap.size + 1) 3 (.int .i64 0) from (hB1.block _ s2).trans q2)
     have x3 := (show Boxed W' (w.heap.size + 1 + 1) 3 (.int .i64 0) from (hB1.block _ s3).trans q3)
     have x4 := (show Boxed W' (w.heap.size + 1 + 1 + 1) 4 (.bool false) from (hB1.block _ s4).trans q4)
     have y2 := x2.cell
     have y3 := x3.cell
     have y4 := x4.cell
     have z2 := x2.frozen
     have z3 := x3.frozen
     have z4 := x4.frozen
     have h1' : 1 ≤ n - 1 - 1 := by omega
     have qq := fun W => nd_in Fence.wide (n - 1 - 1 - 1) trivial rfl yop W
     cases hv1 : ndS yop with
     | true =>
       rw [hv1] at qq
       gi_wp2_with (refine ⟨trivial, ?_⟩; gi_at_call 161; refine (CallsIn.inRound l (qq _)).mono ?_; rintro e w' ⟨rfl, rfl⟩)
       have hmx : Tryz.prog.follows .mixedOrders = true := by kernel_rfl
       have e2 := ((x2.set (.int .i64 yop)).other (B' := w.heap.size + 1 + 1) (by omega) (.int .i64 (((opsEs (roots.take k)).length : Int) + (pre.length : Int)))).other (B' := w.heap.size + 1 + 1 + 1) (by omega) (.bool true)
       have e3 := ((x3.other (B' := w.heap.size + 1) (by omega) (.int .i64 yop)).set (.int .i64 (((opsEs (roots.take k)).length : Int) + (pre.length : Int)))).other (B' := w.heap.size + 1 + 1 + 1) (by omega) (.bool true)
       have e4 := ((x4.other (B' := w.heap.size + 1) (by omega) (.int .i64 yop)).other (B' := w.heap.size + 1 + 1) (by omega) (.int .i64 (((opsEs (roots.take k)).length : Int) + (pre.length : Int)))).set (.bool true)
       rw [← Int.natCast_add] at e2 e3 e4
       have e5 := marks_set (marks_set (marks_set hm1 ⟨w.heap.size + 1, 0, none⟩ (.int .i64 yop)) ⟨w.heap.size + 1 + 1, 0, none⟩ (.int .i64 (((opsEs (roots.take k)).length + pre.length : Nat) : Int))) ⟨w.heap.size + 1 + 1 + 1, 0, none⟩ (.bool true)
       have e6 := belS_set (belS_set (belS_set (hB1.sub hSS) (o := 0) n2' (.int .i64 yop)) (o := 0) n3' (.int .i64 (((opsEs (roots.take k)).length + pre.length : Nat) : Int))) (o := 0) n4' (.bool true)
       have e7 := ((KeepsOthers.setCell w' ⟨w.heap.size + 1, 0, none⟩ (.int .i64 yop)).trans (KeepsOthers.setCell _ ⟨w.heap.size + 1 + 1, 0, none⟩ (.int .i64 (((opsEs (roots.take k)).length + pre.length : Nat) : Int)))).trans (KeepsOthers.setCell _ ⟨w.heap.size + 1 + 1 + 1, 0, none⟩ (.bool true))
       gi_region_o
       all_goals gi_wp2
       all_goals rw [← Int.natCast_add]
       all_goals exact ⟨⟨e7.size, fun k o _ hk ho => e7.same k o hk ho⟩, rfl, pre, ⟨yop, yn, ys, ya, yl, yc⟩, rfl, hp1, hv1, ⟨e2, e3, e4⟩, ⟨⟨e5.1, e5.2⟩, Nat.le_trans hW4 (by simp [World.setCell]; omega)⟩, ⟨e6.os, e6.tape, e6.output, e6.size, e6.block⟩⟩
     | false =>
       rw [hv1] at qq
       gi_wp2_with (refine ⟨trivial, ?_⟩; gi_at_call 161; refine (CallsIn.inRound l (qq _)).mono ?_; rintro e w' ⟨rfl, rfl⟩)
       have ex : (((opsEs (roots.take k)).length + (pre ++ [(⟨yop, yn, ys, ya, yl, yc⟩ : Nd)]).length : Nat) : Int) = ((opsEs (roots.take k)).length : Int) + (pre.length : Int) + 1 := by simp; omega
       refine ⟨(KeepsOthers.setCell _ _ _).from _, ⟨belS_set (BelS.refl _ _) n5 _, fun k o hk ho _ => (Below.heap_setCell _ _ _ _ (by show k ≠ W2.heap.size; omega)).trans ho⟩, ⟨⟨?_, ?_, ?_, marks_set hm1 _ _⟩, belS_set hB1 n5 _⟩⟩
       ·rw [ex]; exact bR1.set _
       ·simp [hp1, hv1]
       ·simpa [World.setCell] using hz1
    case done =>
     rintro D zs' W' hD hzs ⟨⟨bR1, hp1, hz1, hm1⟩, hB1⟩ hK
     gi_wp2
     have ht : opsEs (roots.take (k + 1)) = opsEs (roots.take k) ++ opsE roots[k] := by rw [List.take_succ_eq_append_getElem hlt, opsEs_append]; simp [opsEs]
     refine ⟨⟨k + 1, D :: Ds, _, _, _, _, _, _, _, rfl, by omega, ?_, ?_, hB1, ⟨?_, ?_⟩, ?_⟩, ?_⟩
     ·rw [ht, List.any_append, hnd, ← hzs, hp1]; rfl
     ·rw [ht, List.length_append, ← hzs, List.length_map]; exact bR1
     ·rw [List.nodup_cons]
      exact ⟨fun h => by have := hDs D h; omega, hm1.1⟩
     ·intro D' hD'
      rcases List.mem_cons.1 hD' with rfl | hD'
      ·exact hK
      ·exact hm1.2 D' hD'
     ·intro D' hD'
      rcases List.mem_cons.1 hD' with rfl | hD'
      ·omega
      ·exact hMb D' hD'
     ·simp [intOf]; omega
    case stop =>
     rintro D c pre W' hD hpre ⟨rfl, q, y, rfl, hq, hy, ⟨e4, e5, e6⟩, ⟨e7, e8⟩, e9⟩ hK
     gi_wp2
     refine fin2 _ y.op ((opsEs (roots.take k)).length + q.length : Nat) true (D :: Ds) W' rfl rfl rfl ?_ e4 e5 e6 e9 ⟨?_, ?_⟩ ?_
     ·obtain ⟨t, ht⟩ := hpre
      have e : opsEs roots = (opsEs (roots.take k) ++ q.map Nd.op) ++ (y.op :: (t ++ opsEs (roots.drop (k + 1)))) := by rw [hsp, ← ht]; simp
      rw [hr, e, fstS_app _ _ _ (by rw [List.any_append, hnd, hq]; rfl), fstS, if_pos hy]
      simp
     ·rw [List.nodup_cons]
      exact ⟨fun h => by have := hDs D h; omega, e7.1⟩
     ·intro D' hD'
      rcases List.mem_cons.1 hD' with rfl | hD'
      ·exact hK
      ·exact e7.2 D' hD'
     ·intro D' hD'
      rcases List.mem_cons.1 hD' with rfl | hD'
      ·omega
      ·exact hMb D' hD'
   ·obtain rfl : k = roots.length := by omega
    have c2 := (show Boxed W (w.heap.size + 1) 3 (.int .i64 0) from (hbs.block _ s2).trans q2)
    have c3 := (show Boxed W (w.heap.size + 1 + 1) 3 (.int .i64 0) from (hbs.block _ s3).trans q3)
    have c4 := (show Boxed W (w.heap.size + 1 + 1 + 1) 4 (.bool false) from (hbs.block _ s4).trans q4)
    have d2 := c2.cell
    have d3 := c3.cell
    have d4 := c4.cell
    have h2 := c2.frozen
    have h3 := c3.frozen
    have h4 := c4.frozen
    gi_wp2
    have e2 := ((c2.set (.int .i64 0)).other (B' := w.heap.size + 1 + 1) (by omega) (.int .i64 0)).other (B' := w.heap.size + 1 + 1 + 1) (by omega) (.bool false)
    have e3 := ((c3.other (B' := w.heap.size + 1) (by omega) (.int .i64 0)).set (.int .i64 0)).other (B' := w.heap.size + 1 + 1 + 1) (by omega) (.bool false)
    have e4 := ((c4.other (B' := w.heap.size + 1) (by omega) (.int .i64 0)).other (B' := w.heap.size + 1 + 1) (by omega) (.int .i64 0)).set (.bool false)
    have e5 := marks_set (marks_set (marks_set hM ⟨w.heap.size + 1, 0, none⟩ (.int .i64 0)) ⟨w.heap.size + 1 + 1, 0, none⟩ (.int .i64 0)) ⟨w.heap.size + 1 + 1 + 1, 0, none⟩ (.bool false)
    have e6 := belS_set (belS_set (belS_set (hbs.sub hSS) (o := 0) n2' (.int .i64 0)) (o := 0) n3' (.int .i64 0)) (o := 0) n4' (.bool false)
    refine fin2 _ 0 0 false Ds _ rfl rfl rfl ?_ e2 e3 e4 e6 e5 hMb
    rw [List.take_length] at hnd
    rw [hr, fstS_none _ _ hnd]
 ·rw [if_neg hz] at hr
  gi_wp2_with (refine ⟨trivial, ?_⟩; gi_at_call 71; refine hcall1.mono ?_; clear hcall1; rintro en W2 ⟨v2, g2, rfl, rv2, hw2, hev2⟩; have e2 := dInt rv2; subst e2
               obtain ⟨p2, f2⟩ := fin hev2 (b := w.heap.size + 1) (by omega) (by omega); obtain ⟨p3, f3⟩ := fin hev2 (b := w.heap.size + 1 + 1) (by omega) (by omega); obtain ⟨p4, f4⟩ := fin hev2 (b := w.heap.size + 1 + 1 + 1) (by omega) (by omega)
               have q2 : Boxed W2 (w.heap.size + 1) 3 (.int .i64 0) := p2.trans b2
               have q3 : Boxed W2 (w.heap.size + 1 + 1) 3 (.int .i64 0) := p3.trans b3
               have q4 : Boxed W2 (w.heap.size + 1 + 1 + 1) 4 (.bool false) := p4.trans b4
               have y2 := q2.cell; have y3 := q3.cell; have y4 := q4.cell; have z2 := q2.frozen; have z3 := q3.frozen; have z4 := q4.frozen)
  have e2 := ((q2.set (.int .i64 0)).other (B' := w.heap.size + 1 + 1) (by omega) (.int .i64 0)).other (B' := w.heap.size + 1 + 1 + 1) (by omega) (.bool false)
  have e3 := ((q3.other (B' := w.heap.size + 1) (by omega) (.int .i64 0)).set (.int .i64 0)).other (B' := w.heap.size + 1 + 1 + 1) (by omega) (.bool false)
  have e4 := ((q4.other (B' := w.heap.size + 1) (by omega) (.int .i64 0)).other (B' := w.heap.size + 1 + 1) (by omega) (.int .i64 0)).set (.bool false)
  have hW2 := hev2.size
  obtain ⟨hwf, hef⟩ := ev_other (hev1.trans hev2) hw2 (W' := ((W2.setCell ⟨w.heap.size + 1, 0, none⟩ (.int .i64 0)).setCell ⟨w.heap.size + 1 + 1, 0, none⟩ (.int .i64 0)).setCell ⟨w.heap.size + 1 + 1 + 1, 0, none⟩ (.bool false)) (by simp [World.setCell]) [w.heap.size + 1, w.heap.size + 1 + 1, w.heap.size + 1 + 1 + 1]
   (fun b hb => by
    simp only [List.mem_cons, List.mem_nil_iff, or_false] at hb
    rcases hb with rfl | rfl | rfl
    ·exact ⟨by omega, f2⟩
    ·exact ⟨by omega, f3⟩
    ·exact ⟨by omega, f4⟩)
   (fun b h hO => by
    simp only [List.mem_cons, List.mem_nil_iff, or_false, not_or] at hO
    exact ((Below.heap_setCell _ _ _ _ hO.2.2).trans (Below.heap_setCell _ _ _ _ hO.2.1)).trans (Below.heap_setCell _ _ _ _ hO.1))
   ⟨rfl, rfl⟩
  refine ⟨.tuple #[.int .i64 0, .int .i64 0, .bool false], ?_, _, g2, rfl, ?_, hwf, hef⟩
  ·simp [results, Tryz.results117, go_sem, e2.cell, e3.cell, e4.cell]
  ·rw [hr]
   refine .tuple _ [.int .i64 0, .int .i64 0, .bool false] rfl fun i x v h1 h2 => ?_
   match i with
   | 0 => simp at h1 h2; subst h1; subst h2; exact .d _ _ (.int _ _)
   | 1 => simp at h1 h2; subst h1; subst h2; exact .d _ _ (.int _ _)
   | 2 => simp at h1 h2; subst h1; subst h2; exact .d _ _ (.bool _)
   | i + 3 => simp at h1
end Go.Proofs.YtpbdjgdmhfibmaaGreatDoor
namespace Go.Proofs.YtpbdjgdmhfibmaaGreatDoor
open Go.Abs
theorem own : ownKnob Tryz.prog.godebug = none := by kernel_rfl
theorem mixed : C.P.follows .mixedOrders = true := by kernel_rfl
theorem and2 {a b : Bool} (h : a = true) (h' : b = true) : (a && b) = true := by rw [h, h']; rfl
open Go.ChangeShapes Go.WideShapes Go.ChangeAt Go.RowKit
theorem bulk_mem {H : Type} : ∀ {l : List (DataW H)} {d : DataW H}, d ∈ l → Rows.uptoBulk d ≤ Rows.uptoBulkAll l
 | [], _, h => by cases h
 | x :: l, d, h => by
   unfold Rows.uptoBulkAll
   rcases List.mem_cons.1 h with rfl | h
   ·omega
   ·have := bulk_mem h; omega
theorem bulk_pos {H : Type} (d : DataW H) : 1 ≤ Rows.uptoBulk d := by
 unfold Rows.uptoBulk
 split <;> omega
theorem bulk_len {H : Type} : ∀ (l : List (DataW H)), l.length ≤ Rows.uptoBulkAll l
 | [] => Nat.zero_le _
 | x :: l => by
   have h1 := bulk_pos x
   have h2 := bulk_len l
   unfold Rows.uptoBulkAll
   simp
   omega
theorem exprTy : ExprTy Tryz.prog 62 3 2 9 60 where
 e := ⟨_, Tryz.underlying62, rfl⟩
 int := Tryz.underlying3
 i := Tryz.underlying2
 str := Tryz.underlying9
 es := Tryz.underlying60
 ce := by kernel_rfl
 cint := by kernel_rfl
 ci := by kernel_rfl
 cstr := by kernel_rfl
 ces := by kernel_rfl
theorem procTy : ProcTy Tryz.prog 25 53 22 64 62 3 2 9 60 23 where
 toExprTy := exprTy
 s := ⟨_, Tryz.underlying64, rfl⟩
 ss := Tryz.underlying23
 cs := by kernel_rfl
 css := by kernel_rfl
 p := ⟨_, Tryz.underlying25, rfl⟩
 pm := ⟨_, Tryz.underlying53, rfl⟩
 pms := Tryz.underlying22
 cp := by kernel_rfl
 cpm := by kernel_rfl
 cpms := by kernel_rfl
theorem laid : laidOutB Tryz.prog = true := by kernel_rfl
structure Vl where
 kind : Int
 n : Int
 s : Bytes
def Vl.row (x : Vl) : List Dat := [.int .i64 x.kind, .int .i64 x.n, .str x.s]
structure Vl.Ok (x : Vl) : Prop where
 kind : i64 x.kind
 n : i64 x.n
 s : x.s.length ≤ 1099511627776
theorem readVl (n : Nat) (ds : List Dat) (h : shapeT Tryz.prog 1048576 n 69 ds) : ∃ p : Vl, p.Ok ∧ ds = p.row := by
 obtain ⟨k, rfl, hl, hf⟩ := shape_struct (l := [(3, 0), (2, 1), (9, 2)]) ⟨_, Tryz.underlying69, rfl⟩ h
 have c3 : Tryz.prog.cellsOf 69 = 3 := by kernel_rfl
 rw [c3] at hl
 obtain ⟨d0, d1, d2, rfl⟩ := len3 hl
 have h0 := hf (3, 0) (by simp)
 have h1 := hf (2, 1) (by simp)
 have h2 := hf (9, 2) (by simp)
 simp only [exprTy.cint, exprTy.ci, exprTy.cstr, List.drop_zero, List.drop_succ_cons, List.take_succ_cons, List.take_zero] at h0 h1 h2
 obtain ⟨a, rfl, ha⟩ := shape_i64 exprTy.int h0
 obtain ⟨b, rfl, hb⟩ := shape_i64 exprTy.i h1
 obtain ⟨s, rfl, hs⟩ := shape_str exprTy.str h2
 exact ⟨⟨a, b, s⟩, ⟨ha, hb, by show s.length ≤ _; omega⟩, rfl⟩
end Go.Proofs.YtpbdjgdmhfibmaaGreatDoor
-- CTX C0
namespace Go.Proofs.YtpbdjgdmhfibmaaGreatDoor
open Go.Abs
attribute [local congr] ite_congr
set_option maxRecDepth 100000
@[go_sem] theorem C0_P : C0.P = Tryz.prog := by rfl
@[go_sem] theorem C0_live : C0.live = C.live := by rfl
@[go_sem] theorem C0_own : C0.own = C.own := by rfl
@[go_sem] theorem C0_nilT : C0.nilT = fun _ => false := by rfl
theorem nanSP0 (a : Bytes) (A : AHeap) : acl C0 130 [.d (.str a)] A = some (.d (.bool false), A) := by
 rw [kC0 Tryz.func130 rfl Tryz.ntmps130 Tryz.results130]
 simp only [go_sem, acondK_bool, beq_self_eq_true, Bool.not_true]
theorem nanTP0 (a : Bytes) (A : AHeap) : acl C0 92 [.d (.str a)] A = some (.d (.bool false), A) := by
 rw [kC0 Tryz.func92 rfl Tryz.ntmps92 Tryz.results92]
 simp only [go_sem, acondK_bool, beq_self_eq_true, Bool.not_true]
theorem lessP0 (a b : Bytes) (A : AHeap) : acl C0 91 [.d (.str a), .d (.str b)] A = some (.d (.bool (Op.bytesLess a b)), A) := by
 have n1 := nanSP0 a A
 have n2 := nanSP0 b A
 rw [kC0 Tryz.func91 rfl Tryz.ntmps91 Tryz.results91]
 simp only [go_sem, acondK_bool, n1, n2]
theorem own_idx0 {A : AHeap} {tok i : Nat} {l : List Bytes} (hb : A.bufs[tok]? = some ⟨9, 1, srow l, 0⟩) (hi : i < l.length) : aindex 1 A (i : Nat) (.own tok l.length) = some (.eptr tok l.length i 0) := by
 have h1 : (srow l).length = l.length := by simp [srow]
 simp only [aindex, hb, h1, Int.toNat_natCast]
 simp [hi]
theorem u64_in0 {n : Int} (h0 : 0 ≤ n) (h1 : n ≤ 9223372036854775807) : IntKind.u64.wrap n = n := by
 rw [IntKind.wrap_u64]; omega
theorem shr10 {n : Int} {t : TypeId} : abin Tryz.prog .shr t (.d (.int .u64 n)) (.d (.int .u64 1)) = some (.d (.int .u64 (n / 2))) := b_ishr (by decide)
theorem own_ld0 {A : AHeap} {tok i : Nat} {l : List Bytes} (hb : A.bufs[tok]? = some ⟨9, 1, srow l, 0⟩) (hi : i < l.length) : aload A 1 false (.eptr tok l.length i 0) = some (.d (.str (l.getD i []))) := by
 have h1 : (srow l).length = l.length := by simp [srow]
 have h2 : (srow l)[i]? = some [.str (l.getD i [])] := by simp [srow, hi]
 simp only [aload, hb, h1, h2, Nat.zero_le, and_self, if_true]
 rfl
theorem afin_np0 {f : FuncId} {A : AHeap} {v : AV} (ho : C0.own f = true) (h : v.noptr = true) : afinR C0 f A A (some v) = some (v, A) := by
 simp only [afinR, Option.map_some, afinish, ho, if_true]
 rw [acutO_same (by simp)]
 simp [acut, h]
theorem bsP0 {A : AHeap} {tok : Nat} {l : List Bytes} (k : Bytes) (hb : A.bufs[tok]? = some ⟨9, 1, srow l, 0⟩) (hl : l.length ≤ 1099511627776) :
  acl C0 53 [.own tok l.length, .d (.str k)] A = some (.tuple [.d (.int .i64 (bsR l k 0 l.length : Nat)), .d (.bool (sIn l k))], A) := by
 have le (a b : Bytes) := lessP0 a b A
 have na (a : Bytes) := nanTP0 a A
 rw [k_call_own (c := C0) (f := 53) rfl Tryz.func53 rfl (ok 53 (by kernel_rfl)) rfl Tryz.ntmps53 Tryz.results53 (by simp)]
 simp only [go_sem, acondK_bool]
 refine loop_meas (fun s : Nat × Nat => [(7, .v (.d (.int .i64 (s.1 : Nat)))), (1, .v (.d (.str k))), (0, .v (.own tok l.length)), (8, .v (.d (.int .i64 (s.2 : Nat)))), (6, .v (.d (.int .i64 (l.length : Nat))))]) (fun _ => A)
  (fun s => s.2 - s.1) (fun s => s.1 ≤ s.2 ∧ s.2 ≤ l.length ∧ bsR l k s.1 s.2 = bsR l k 0 l.length) (0, l.length) rfl rfl ⟨by simp, by simp, rfl⟩ ?_
 rintro ⟨i, j⟩ ⟨h1, h2, h3⟩ ih
 simp only at h1 h2 h3 ih
 by_cases hlt : i < j
 ·have e1 : decide ((i : Int) < (j : Nat)) = true := by simp [hlt]
  have e2 : IntKind.i64.wrap ((i : Nat) + (j : Nat)) = ((i + j : Nat) : Int) := by rw [wrap_in] <;> omega
  have e3 : IntKind.u64.wrap ((i + j : Nat) : Int) = ((i + j : Nat) : Int) := u64_in0 (by omega) (by omega)
  have e4 : IntKind.i64.wrap (((i + j : Nat) : Int) / 2) = (((i + j) / 2 : Nat) : Int) := by rw [wrap_in] <;> omega
  have hm : (i + j) / 2 < l.length := by omega
  generalize hme : (i + j) / 2 = m at e4 hm
  have hs : bsR l k i j = if Op.bytesLess (l.getD m []) k = true then bsR l k (m + 1) j else bsR l k i m := by
   rw [bsR, dif_pos hlt, hme]
  have e5 : IntKind.i64.wrap ((m : Nat) + 1) = ((m + 1 : Nat) : Int) := by rw [wrap_in] <;> omega
  cases hc : Op.bytesLess (l.getD m []) k with
  | true =>
    rw [hc, if_pos rfl] at hs
    have i1 := ih (m + 1, j) (by simp only; omega) ⟨by simp only; omega, h2, by rw [← h3, hs]⟩
    simp only [go_sem, acondK_bool, e1, e2, e3, e4, e5, shr10, own_idx0 hb hm, own_ld0 hb hm, le, hc, i1]
  | false =>
    rw [hc, if_neg (by simp)] at hs
    have i1 := ih (i, m) (by simp only; omega) ⟨by simp only; omega, by simp only; omega, by rw [← h3, hs]⟩
    simp only [go_sem, acondK_bool, e1, e2, e3, e4, e5, shr10, own_idx0 hb hm, own_ld0 hb hm, le, hc, i1]
 ·have e1 : decide ((i : Int) < (j : Nat)) = false := by simp [hlt]
  have hs : bsR l k i j = i := by rw [bsR, dif_neg hlt]
  have hi : bsR l k 0 l.length = i := by rw [← h3, hs]
  unfold sIn
  have fin (x : Int) (y : Bool) := afin_np0 (f := 53) (A := A) (v := .tuple [.d (.int .i64 x), .d (.bool y)]) rfl rfl
  rw [hi]
  by_cases hn : i < l.length
  ·have e2 : decide ((i : Int) < (l.length : Nat)) = true := by simp [hn]
   have e3 : decide (i < l.length) = true := by simp [hn]
   rw [e3]
   cases he : l.getD i [] == k with
   | true => simp only [go_sem, acondK_bool, e1, e2, own_idx0 hb hn, own_ld0 hb hn, he, na, Bool.true_and, fin]
   | false => simp only [go_sem, acondK_bool, e1, e2, own_idx0 hb hn, own_ld0 hb hn, he, na, Bool.true_and, fin]
  ·have e2 : decide ((i : Int) < (l.length : Nat)) = false := by simp [hn]
   have e3 : decide (i < l.length) = false := by simp [hn]
   rw [e3]
   simp only [go_sem, acondK_bool, e1, e2, Bool.false_and, fin]
theorem bs0P0 {A : AHeap} (k : Bytes) : acl C0 53 [.nilS, .d (.str k)] A = some (.tuple [.d (.int .i64 0), .d (.bool false)], A) := by
 have fin (x : Int) (y : Bool) := afin_np0 (f := 53) (A := A) (v := .tuple [.d (.int .i64 x), .d (.bool y)]) rfl rfl
 rw [k_call_own (c := C0) (f := 53) rfl Tryz.func53 rfl (ok 53 (by kernel_rfl)) rfl Tryz.ntmps53 Tryz.results53 (by simp)]
 simp only [go_sem, acondK_bool]
 refine loop_meas (fun s : Nat => [(7, .v (.d (.int .i64 0))), (1, .v (.d (.str k))), (0, .v .nilS), (8, .v (.d (.int .i64 0))), (6, .v (.d (.int .i64 0)))]) (fun _ => A)
  (fun s => s) (fun s => True) 0 rfl rfl trivial ?_
 intro s _ ih
 simp only [go_sem, acondK_bool, fin]
end Go.Proofs.YtpbdjgdmhfibmaaGreatDoor
namespace Go.Proofs.YtpbdjgdmhfibmaaGreatDoor
open Go.RowKit Go.Shelf
def rho2 : Ren := ⟨fun n => bif Nat.beq n 0 then 0 else bif Nat.beq n 1 then 1 else bif Nat.beq n 2 then 2 else bif Nat.beq n 17 then 242 else bif Nat.beq n 20 then 145 else bif Nat.beq n 22 then 195 else bif Nat.beq n 26 then 53 else bif Nat.beq n 29 then 220 else bif Nat.beq n 30 then 221 else bif Nat.beq n 31 then 203 else bif Nat.beq n 33 then 91 else bif Nat.beq n 34 then 92 else bif Nat.beq n 36 then 235 else bif Nat.beq n 37 then 228 else bif Nat.beq n 38 then 130 else bif Nat.beq n 40 then 250 else bif Nat.beq n 41 then 251 else bif Nat.beq n 42 then 252 else bif Nat.beq n 43 then 253 else bif Nat.beq n 44 then 254 else bif Nat.beq n 45 then 255 else bif Nat.beq n 46 then 256 else bif Nat.beq n 47 then 257 else bif Nat.beq n 48 then 258 else bif Nat.beq n 49 then 259 else bif Nat.beq n 50 then 260 else bif Nat.beq n 51 then 261 else bif Nat.beq n 52 then 262 else bif Nat.beq n 53 then 263 else bif Nat.beq n 54 then 264 else bif Nat.beq n 55 then 265 else 0, fun n => bif Nat.beq n 0 then 0 else bif Nat.beq n 1 then 1 else bif Nat.beq n 2 then 2 else bif Nat.beq n 3 then 3 else bif Nat.beq n 4 then 4 else bif Nat.beq n 5 then 5 else bif Nat.beq n 6 then 6 else bif Nat.beq n 7 then 7 else bif Nat.beq n 8 then 8 else bif Nat.beq n 9 then 9 else bif Nat.beq n 10 then 10 else bif Nat.beq n 11 then 11 else bif Nat.beq n 12 then 12 else bif Nat.beq n 13 then 13 else bif Nat.beq n 14 then 14 else bif Nat.beq n 15 then 15 else bif Nat.beq n 16 then 16 else bif Nat.beq n 17 then 17 else bif Nat.beq n 18 then 18 else bif Nat.beq n 19 then 19 else bif Nat.beq n 20 then 20 else bif Nat.beq n 21 then 21 else bif Nat.beq n 22 then 72 else bif Nat.beq n 23 then 206 else bif Nat.beq n 24 then 33 else bif Nat.beq n 26 then 292 else bif Nat.beq n 30 then 252 else bif Nat.beq n 33 then 111 else bif Nat.beq n 35 then 112 else bif Nat.beq n 38 then 37 else bif Nat.beq n 39 then 270 else bif Nat.beq n 40 then 153 else bif Nat.beq n 41 then 258 else bif Nat.beq n 42 then 130 else bif Nat.beq n 43 then 154 else bif Nat.beq n 44 then 149 else bif Nat.beq n 45 then 205 else bif Nat.beq n 46 then 299 else bif Nat.beq n 47 then 300 else bif Nat.beq n 48 then 301 else bif Nat.beq n 49 then 302 else bif Nat.beq n 50 then 303 else bif Nat.beq n 51 then 304 else bif Nat.beq n 52 then 282 else bif Nat.beq n 53 then 262 else bif Nat.beq n 54 then 305 else bif Nat.beq n 55 then 306 else bif Nat.beq n 56 then 307 else bif Nat.beq n 57 then 308 else bif Nat.beq n 58 then 309 else bif Nat.beq n 59 then 310 else bif Nat.beq n 60 then 311 else bif Nat.beq n 61 then 312 else bif Nat.beq n 62 then 313 else 0, fun n => 0⟩
theorem mixedP_rho2 : Tryz.prog.follows .mixedOrders = true := mixed
set_option maxRecDepth 100000 in
theorem lay_Lays2_n22 : Lays2.n22 Tryz.prog rho2 where
 mixed := mixedP_rho2
 f17 := by kernel_rfl
 f22 := by kernel_rfl
 f29 := by kernel_rfl
 f30 := by kernel_rfl
 f36 := by kernel_rfl
 t0 := by kernel_rfl
 a0 := fun _ => by kernel_rfl
 z0 := fun _ => by kernel_rfl
 v0 := fun _ => by kernel_rfl
 t3 := by kernel_rfl
 a3 := fun _ => by kernel_rfl
 z3 := fun _ => by kernel_rfl
 v3 := fun _ => by kernel_rfl
 t4 := by kernel_rfl
 a4 := fun _ => by kernel_rfl
 z4 := fun _ => by kernel_rfl
 v4 := fun _ => by kernel_rfl
 t9 := by kernel_rfl
 a9 := fun _ => by kernel_rfl
 z9 := fun _ => by kernel_rfl
 v9 := fun _ => by kernel_rfl
 t24 := by kernel_rfl
 a24 := fun _ => by kernel_rfl
 z24 := fun _ => by kernel_rfl
 v24 := fun _ => by kernel_rfl
 i9 := by kernel_rfl
end Go.Proofs.YtpbdjgdmhfibmaaGreatDoor
