/- The law's own example, whole; the machine that knows it. -/
import Derived.Test.YtpbdjgdmhfibmaaGreatDoorRows
import Derived.Test.YtpbdjgdmhfibmaaGreatDoorChecked
import Derived.JoinedCond
import Derived.Deep.DeepHandedRow
import Derived.Lib.LaidTab
import Derived.Stop.LaidErr
import Derived.MakeChecks
import Derived.Test.YtpbdjgdmhfibmaaGreatDoorSeatA
import Derived.Test.YtpbdjgdmhfibmaaGreatDoorSeatJ
import Derived.Test.YtpbdjgdmhfibmaaGreatDoorGenD
set_option linter.all false
namespace Go.Proofs.YtpbdjgdmhfibmaaGreatDoor
open Go.Abs
set_option maxRecDepth 100000
def exA : E := .mk 2 0 [97] []
def exB : E := .mk 1 1 [] []
def exW : Pr := ⟨[112], [], [.mk 3 [] 0 exA exB [] []]⟩
def txW : Tx := ⟨1, [112], [], ⟨false, [], [[97]]⟩, 1⟩
theorem exOk (op n : Int) (s : Bytes) (h1 : i64 op) (h2 : i64 n) (h3 : s.length ≤ 64) : E.Ok (.mk op n s []) := by
 constructor <;> first | assumption | omega | simp
theorem exA_ok : exA.Ok := exOk _ _ _ (by unfold i64; omega) (by unfold i64; omega) (by simp)
theorem exB_ok : exB.Ok := exOk _ _ _ (by unfold i64; omega) (by unfold i64; omega) (by simp)
theorem exSt (a b : E) (ha : a.Ok) (hb : b.Ok) : Stm.Ok (.mk 3 [] 0 a b [] []) := by
 constructor <;> first | assumption | (unfold i64; omega) | simp
theorem exW_ok : exW.Ok := ⟨by simp [exW], by simp [exW], by simp [exW], by simp [exW], by simp [exW]; exact exSt _ _ exA_ok exB_ok, by simp [exW], by simp [exW]⟩
theorem exW_run : runOk exW [] [] = true := by decide
theorem exW_args : argsS exW [] = 0 := by
 have h := exW_run
 unfold runOk at h
 simp only [Bool.and_eq_true, decide_eq_true_eq] at h
 exact h.2.1
theorem exW_find : findS [exW] txW = some exW := by
 unfold findS
 have e : [exW].find? (fun p => p.name == txW.proc) = some exW := rfl
 rw [e]
 simp only
 exact if_pos (decide_eq_true (exW_args : argsS exW txW.args = 0))
theorem exW_ex : exL exW.body (begF exW [] [] false [] [[97]]) = .ok ⟨[], false, [], [[97]], [], [([97], ⟨1, 1, []⟩)], [], [], [[97]], 1⟩ := by
 have kv : keyV [97] = true := by decide
 have hn : hasN [[97]] [97] = true := by decide
 have w1 : IntKind.i64.wrap ((newS [] false [] [[97]]).steps + 1) = 1 := by decide
 have wn : withS [] [97] = [[97]] := by unfold withS sIn; rw [bsR]; simp
 simp [exW, exA, exB, exL, exS, evE, begF, newS, varsR, tickR, Rx.bind, Rv.bind, mustR, storeR, kv, hn, wn, setE, show IntKind.i64.wrap 1 = 1 by decide]
theorem exW_ef : efS exW [] [] ⟨false, [], [[97]]⟩ = ⟨1, 0, [], [], [[97]], [⟨[97], ⟨1, 1, []⟩⟩], [], 1⟩ := by
 unfold efS
 rw [if_pos exW_run, exW_ex]
 rfl
theorem exW_one : oneS [exW] [] txW = ([⟨[97], ⟨1, 1, []⟩⟩], ⟨1, 0, [], [], [[97]], [⟨[97], ⟨1, 1, []⟩⟩], [], 1⟩) := by
 unfold oneS
 rw [exW_find]
 simp only [txW, exW_ef]
 have h1 : (stV [] && srtS none [⟨[97], ⟨1, 1, []⟩⟩]) = true := by decide
 unfold updK
 rw [if_pos (by decide), if_pos h1]
 simp [apM, kwr]
theorem wk_one (A : AHeap) : acl D 57 [.d (.slice [wkP]), .d (.slice []), .agg (wkT.map .d)] A = some (wkR, A) := by
 have o := oneP [exW] [] txW A ⟨by simp, by simpa using exW_ok⟩ ⟨by simp, by simp⟩ ⟨by simp [txW], ⟨by simp [txW], by simp [txW], by simp [txW], by simp [txW]⟩⟩ rfl (by decide)
 rw [exW_one] at o
 exact o
theorem oneO_ok : CallOk1I Tryz.prog IT 57 oneO := by
 have e : oneO = outFn oneK := rfl
 rw [e]
 refine out_okI IT_closed ⟨_, Tryz.func57, by kernel_rfl, by kernel_rfl⟩ fun xs x hx W g A vs hi hw hr => ?_
 obtain ⟨rfl, rfl⟩ := oneK_eq hx
 exact (acl_okI IT_closed mixedD extOkD _ _ _ _ _ (wk_one A)).2 W g vs hi hw hr
theorem extOkE : ∀ f h, EW.ext f = some h → CallOk1I EW.P IT f h := by
 intro f h hf
 have key : EW.ext f = extE f := rfl
 rw [key] at hf
 unfold extE at hf
 cases h1 : Nat.beq f 57 with
 | true =>
   rw [h1] at hf
   cases hf
   obtain rfl : f = 57 := Nat.eq_of_beq_eq_true h1
   exact oneO_ok
 | false =>
 cases h3 : Nat.beq f 176 with
 | true =>
   rw [h1, h3] at hf
   cases hf
   obtain rfl : f = 176 := Nat.eq_of_beq_eq_true h3
   exact cmp_okE.I
 | false =>
 cases h5 : Nat.beq f 31 with
 | true =>
   rw [h1, h3, h5] at hf
   cases hf
   obtain rfl : f = 31 := Nat.eq_of_beq_eq_true h5
   exact clone_ok.I
 | false => rw [h1, h3, h5] at hf; cases hf
theorem mixedE : EW.P.follows .mixedOrders = true := mixed
theorem workOk : CallOk1I Tryz.prog IT 12 (closedFn true) := closed_extI (c := EW) IT_closed (fun W g h => ⟨h.1, fun _ _ => rfl⟩) mixedE extOkE work0
noncomputable def extF (f : FuncId) : Option AFun := bif Nat.beq f 12 then some (closedFn true) else extD f
noncomputable def FW : ACtx := { D with ext := extF }
theorem extOkF : ∀ f h, FW.ext f = some h → CallOk1I FW.P IT f h := by
 intro f h hf
 have key : FW.ext f = extF f := rfl
 rw [key] at hf
 unfold extF at hf
 cases h1 : Nat.beq f 12 with
 | true =>
   rw [h1] at hf
   cases hf
   obtain rfl : f = 12 := Nat.eq_of_beq_eq_true h1
   exact workOk
 | false => rw [h1] at hf; exact extOkD f h hf
theorem mixedF : FW.P.follows .mixedOrders = true := mixed
@[go_sem] theorem F_P : FW.P = Tryz.prog := by rfl
@[go_sem] theorem F_live : FW.live = C.live := by rfl
@[go_sem] theorem F_esc : FW.esc = C.esc := by rfl
@[go_sem] theorem F_own : FW.own = C.own := by rfl
@[go_sem] theorem F_typed : FW.typed = C.typed := by rfl
@[go_sem] theorem F_nilT : FW.nilT = fun _ => false := by rfl
theorem upF {f : FuncId} {args : List AV} {A : AHeap} {r : AV × AHeap} (h : acl D f args A = some r) : acl FW f args A = some r := by
 refine acl_up (c := D) (e := extF) (fun f => ?_) h
 cases h1 : Nat.beq f 12 with
 | true =>
   obtain rfl : f = 12 := Nat.eq_of_beq_eq_true h1
   exact .inr ⟨failFn, by rfl, fun args A r h => by cases h⟩
 | false =>
   have ke : extF f = D.ext f := by unfold extF; rw [h1]; rfl
   cases hc : D.ext f with
   | none => exact .inl ⟨rfl, by rw [ke, hc]⟩
   | some k => exact .inr ⟨k, rfl, fun args A r hr => ⟨k, by rw [ke, hc], hr⟩⟩
theorem workF (A : AHeap) : acl FW 12 [] A = some (.d (.bool true), A) := by
 rw [acl_ext (c := FW) (f := 12) (g := closedFn true) rfl]
 rfl
theorem kFW {f nt : Nat} {code : Code} {fn : Func} {args : List AV} {A : AHeap} {ra : Array ResultVar} (hf : Tryz.prog.funcs[f]? = some fn) (hb : fn.body = some code) (hnt : fn.ntmps = nt) (hrs : fn.results = ra) (hg : FW.ext f = none := by rfl) (hk : okL.contains f = true := by kernel_rfl) (ho : FW.own f = false := by rfl) (hn : args.length ≤ nt := by simp) :
  acl FW f args A = cek ⟨FW, f, nt, ra.toList, A⟩ [] code (aenter 0 (acleanVs A args).1) (acleanVs A args).2 := k_call (c := FW) hg hf hb (ok f hk) ho hnt hrs hn
end Go.Proofs.YtpbdjgdmhfibmaaGreatDoor
-- CTX D
namespace Go.Proofs.YtpbdjgdmhfibmaaGreatDoor
open Go.Abs
attribute [local congr] ite_congr
set_option maxRecDepth 100000
def engAV (q : Nat) : AV := .agg [.func (.func 70) [] [.ptr q 0]]
theorem withP (ps : List Pr) (A : AHeap) : acl D 29 [.d (.slice (ps.map Pr.row))] A = some (engAV A.objs.length, ⟨A.objs ++ [.cells [.d (.slice (ps.map Pr.row))]], A.bufs⟩) := by
 have fin : afinR D 29 A ⟨A.objs ++ [.cells [.d (.slice (ps.map Pr.row))]], A.bufs⟩ (some (.agg [.func (.func 70) [] [.ptr A.objs.length 0]])) = some (.agg [.func (.func 70) [] [.ptr A.objs.length 0]], ⟨A.objs ++ [.cells [.d (.slice (ps.map Pr.row))]], A.bufs⟩) := by
  have k : D.own 29 = false := by rfl
  have e : ∀ B, acleanR B (.agg [.func (.func 70) [] [.ptr A.objs.length 0]]) = (.agg [.func (.func 70) [] [.ptr A.objs.length 0]], B) := fun B => rfl
  simp only [afinR, Option.map_some, afinish, k, Bool.false_eq_true, if_false, e]
  unfold acut
  simp [AV.noptr, AV.noptr2, AV.noptr1]
 unfold engAV
 rw [kD Tryz.func29 rfl Tryz.ntmps29 Tryz.results29]
 simp only [go_sem, acondK_bool, fin]
theorem with1P (ps : List Pr) (s : List Kv) (t : Tx) (B : AHeap) (q : Nat) (hq : B.objs[q]? = some (.cells [.d (.slice (ps.map Pr.row))])) (hp : PsOk ps) (hs : StOk s 2097152) (ht : t.Ok) (ha : t.foot.all = false) (hV : t.foot.V = true) :
  acl D 70 [.d (.slice (s.map Kv.row)), .agg t.cs, .ptr q 0] B = some (.tuple [.d (.slice ((oneS ps s t).1.map Kv.row)), (oneS ps s t).2.av], B) := by
 have o := oneP ps s t B hp hs ht ha hV
 generalize oneS ps s t = r at *
 have fin := fin_data (f := 70) rfl (v := .tuple [.d (.slice (r.1.map Kv.row)), r.2.av]) ⟨rfl, rfl, rfl⟩ (A := B) (B := B) (by simp) (by simp)
 unfold Tx.cs Ef.av effAV at *
 rw [kD Tryz.func70 rfl Tryz.ntmps70 Tryz.results70]
 simp only [go_sem, acondK_bool, hq, o, fin]
def roundS (ps : List Pr) : List Tx → List Kv → List Kv × List Ef
 | [], s => (s, [])
 | t :: l, s => ((roundS ps l (oneS ps s t).1).1, (oneS ps s t).2 :: (roundS ps l (oneS ps s t).1).2)
theorem roundS_snoc (ps : List Pr) (x : Tx) : ∀ (l : List Tx) (s : List Kv), roundS ps (l ++ [x]) s = ((oneS ps (roundS ps l s).1 x).1, (roundS ps l s).2 ++ [(oneS ps (roundS ps l s).1 x).2])
 | [], s => rfl
 | t :: l, s => by
   simp only [List.cons_append, roundS, roundS_snoc ps x l]
def Ef.row (e : Ef) : List Dat := [.int .i64 e.st, .int .i64 e.code, .slice (e.out.map Vl.row), .slice (srow e.rd), .slice (srow e.wr), .slice (e.ws.map Kv.row), .str e.miss, .int .i64 e.steps]
noncomputable abbrev grEf (A : AHeap) (l : List Ef) : AV × AHeap := agrow A 35 8 (l.map Ef.row)
theorem grEf_append (A : AHeap) (l : List Ef) (e : Ef) (h : l.length ≤ 4194303) : aappend Tryz.prog 35 8 (grEf A l).2 (grEf A l).1 [[.int .i64 e.st, .int .i64 e.code, .slice (e.out.map Vl.row), .slice (srow e.rd), .slice (srow e.wr), .slice (e.ws.map Kv.row), .str e.miss, .int .i64 e.steps]] = some (grEf A (l ++ [e])) := by
 have := agrow_append (P := Tryz.prog) (A := A) (ty := 35) (sz := 8) (rows := l.map Ef.row) (src := [e.row]) room_35_8 rfl (by simp; omega)
 unfold grEf
 rw [List.map_append]
 exact this
def RndOk (ps : List Pr) : List Tx → List Kv → Prop
 | [], _ => True
 | t :: l, s => StOk s 2097152 ∧ t.Ok ∧ t.foot.all = false ∧ t.foot.V = true ∧ RndOk ps l (oneS ps s t).1
theorem RndOk.at {ps : List Pr} {x : Tx} {suf : List Tx} : ∀ {pre : List Tx} {s : List Kv}, RndOk ps (pre ++ x :: suf) s → StOk (roundS ps pre s).1 2097152 ∧ x.Ok ∧ x.foot.all = false ∧ x.foot.V = true
 | [], s, h => ⟨h.1, h.2.1, h.2.2.1, h.2.2.2.1⟩
 | t :: pre, s, h => RndOk.at (pre := pre) h.2.2.2.2
theorem roundE_len (ps : List Pr) : ∀ (l : List Tx) (s : List Kv), (roundS ps l s).2.length = l.length
 | [], _ => rfl
 | t :: l, s => by simp [roundS, roundE_len ps l]
theorem afin_round (A : AHeap) (s : List Kv) (l : List Ef) : afinR D 30 A (grEf A l).2 (some (.tuple [.d (.slice (s.map Kv.row)), (grEf A l).1])) = some (.tuple [.d (.slice (s.map Kv.row)), .d (.slice (l.map Ef.row))], A) := by
 have k : D.own 30 = false := by rfl
 simp only [afinR, Option.map_some, afinish, k, Bool.false_eq_true, if_false]
 unfold grEf agrow
 by_cases h1 : l.map Ef.row = []
 ·simp only [h1, if_true, acleanR, acleanVs, acleanV, aclean]
  unfold acut
  simp [AV.noptr, AV.noptr2, AV.noptr1]
 ·simp only [if_neg h1, acleanR, acleanVs, acleanV, aclean, arows]
  simp only [List.getElem?_append_right (Nat.le_refl _), Nat.sub_self, List.getElem?_cons_zero, if_true]
  unfold acut
  simp [AHeap.freeze, AV.noptr, AV.noptr2, AV.noptr1]
  rw [take_front]
theorem roundP (ps : List Pr) (s : List Kv) (ts : List Tx) (B : AHeap) (q : Nat) (hq : B.objs[q]? = some (.cells [.d (.slice (ps.map Pr.row))])) (hp : PsOk ps) (hl : ts.length ≤ 1048576) (hr : RndOk ps ts s) :
  acl D 30 [engAV q, .d (.slice (s.map Kv.row)), .d (.slice (ts.map Tx.row))] B = some (.tuple [.d (.slice ((roundS ps ts s).1.map Kv.row)), .d (.slice ((roundS ps ts s).2.map Ef.row))], B) := by
 unfold engAV
 rw [kD Tryz.func30 rfl Tryz.ntmps30 Tryz.results30]
 simp only [go_sem, acondK_bool]
 refine loop_any (fun pre => [(1, .v (.d (.slice ((roundS ps pre s).1.map Kv.row)))), (8, .v (grEf B (roundS ps pre s).2).1), (14, .v (.d (.int .i64 (pre.length : Nat)))), (3, .box [.func (.func 70) [] [.ptr q 0]]), (12, .v (.d (.slice (ts.map Tx.row)))), (13, .v (.d (.int .i64 (ts.length : Nat))))])
  (fun pre => (grEf B (roundS ps pre s).2).2) (fun _ _ => some (.tuple [.d (.slice ((roundS ps ts s).1.map Kv.row)), .d (.slice ((roundS ps ts s).2.map Ef.row))], B)) ts rfl rfl rfl ?_
 intro pre suf h ih
 have hb : pre.length < 9223372036854775807 := by rw [h] at hl; simp at hl; omega
 cases suf with
 | nil =>
   rw [List.append_nil] at h
   subst h
   have e4 : decide ((ts.length : Int) < (ts.length : Int)) = false := by simp
   have fin := afin_round B (roundS ps ts s).1 (roundS ps ts s).2
   simp only [go_sem, acondK_bool, e4, fin, one_grow, cells_grow]
 | cons x suf =>
   have e2 := ih x suf rfl
   rw [List.length_append, List.length_cons, List.length_nil, roundS_snoc] at e2
   have e3 : (ts.map Tx.row)[pre.length]? = some [.int .i64 x.id, .str x.proc, .slice (x.args.map Vl.row), .bool x.foot.all, .slice (srow x.foot.rd), .slice (srow x.foot.wr), .int .i64 x.att] := by rw [h]; exact map_mid
   have e4 : decide ((pre.length : Int) < (ts.length : Int)) = true := by rw [h]; simp; omega
   rw [h] at hr
   obtain ⟨q1, q2, q3, q4⟩ := hr.at
   have hlen := roundE_len ps pre s
   have hle : (roundS ps pre s).2.length ≤ 4194303 := by rw [hlen]; rw [h] at hl; simp at hl; omega
   have ap := grEf_append B (roundS ps pre s).2 (oneS ps (roundS ps pre s).1 x).2 hle
   have hq' : (grEf B (roundS ps pre s).2).2.objs[q]? = some (.cells [.d (.slice (ps.map Pr.row))]) := by rw [grow_objs]; exact hq
   have w1 := with1P ps (roundS ps pre s).1 x (grEf B (roundS ps pre s).2).2 q hq' hp q1 q2 q3 q4
   unfold Tx.cs Ef.av effAV at w1
   simp only [go_sem, acondK_bool, e3, e4, w1, ap, e2, one_grow, cells_grow, wrap_nat hb]
end Go.Proofs.YtpbdjgdmhfibmaaGreatDoor
-- CTX D
namespace Go.Proofs.YtpbdjgdmhfibmaaGreatDoor
open Go.Abs
attribute [local congr] ite_congr
set_option maxRecDepth 100000
theorem roundTP (ps : List Pr) (s : List Kv) (ts : List Tx) (A : AHeap) (hp : PsOk ps) (hl : ts.length ≤ 1048576) (hr : RndOk ps ts s) (hz : (roundS ps ts s).1.length ≤ 4194304) :
  acl D 13 [.d (.slice (ps.map Pr.row)), .d (.slice (s.map Kv.row)), .d (.slice (ts.map Tx.row))] A = some (.tuple [.d (.slice ((roundS ps ts s).1.map Kv.row)), .d (.slice ((roundS ps ts s).2.map Ef.row))], A) := by
 have w := withP ps A
 have r := roundP ps s ts ⟨A.objs ++ [.cells [.d (.slice (ps.map Pr.row))]], A.bufs⟩ A.objs.length (by simp) hp hl hr
 generalize roundS ps ts s = x at *
 have cl := cloneP x.1 hz ⟨A.objs ++ [.cells [.d (.slice (ps.map Pr.row))]], A.bufs⟩
 have fin := fin_data (f := 13) rfl (v := .tuple [.d (.slice (x.1.map Kv.row)), .d (.slice (x.2.map Ef.row))]) ⟨rfl, rfl, rfl⟩ (A := A) (B := ⟨A.objs ++ [.cells [.d (.slice (ps.map Pr.row))]], A.bufs⟩) (by simp) (by simp)
 rw [kD Tryz.func13 rfl Tryz.ntmps13 Tryz.results13]
 simp only [go_sem, acondK_bool, w, r, cl, fin]
theorem neqKv (x : Kv) : abin Tryz.prog .neq 71 (.agg [.d (.str x.key), .d (.int .i64 x.v.kind), .d (.int .i64 x.v.n), .d (.str x.v.s)]) (.agg [.d (.str x.key), .d (.int .i64 x.v.kind), .d (.int .i64 x.v.n), .d (.str x.v.s)]) = some (.d (.bool false)) := by
 have h : flatT Tryz.prog 71 = some [2, 1, 1, 2] := by kernel_rfl
 simp only [abin, h, aeqCells]
 simp
theorem neqVl (v : Vl) : abin Tryz.prog .neq 69 (.agg [.d (.int .i64 v.kind), .d (.int .i64 v.n), .d (.str v.s)]) (.agg [.d (.int .i64 v.kind), .d (.int .i64 v.n), .d (.str v.s)]) = some (.d (.bool false)) := by
 have h : flatT Tryz.prog 69 = some [1, 1, 2] := by kernel_rfl
 simp only [abin, h, aeqCells]
 simp
theorem same06P (l : List Kv) (A : AHeap) (hl : l.length ≤ 1099511627776) : acl D 14 [.d (.slice (l.map Kv.row)), .d (.slice (l.map Kv.row))] A = some (.d (.bool true), A) := by
 rw [kD Tryz.func14 rfl Tryz.ntmps14 Tryz.results14]
 simp only [go_sem, acondK_bool]
 refine loop_any (fun pre => [(0, .v (.d (.slice (l.map Kv.row)))), (1, .v (.d (.slice (l.map Kv.row)))), (5, .v (.d (.int .i64 (pre.length : Nat))))]) (fun _ => A) (fun _ _ => some (.d (.bool true), A)) l rfl rfl rfl ?_
 intro pre suf h ih
 have hb : pre.length < 9223372036854775807 := by rw [h] at hl; simp at hl; omega
 cases suf with
 | nil =>
   have e4 : decide ((pre.length : Int) < (l.length : Int)) = false := by rw [h]; simp
   simp only [go_sem, acondK_bool, e4]
 | cons x suf =>
   have e2 := ih x suf rfl
   rw [List.length_append, List.length_cons, List.length_nil] at e2
   have e3 : (l.map Kv.row)[pre.length]? = some [.str x.key, .int .i64 x.v.kind, .int .i64 x.v.n, .str x.v.s] := by rw [h]; exact map_mid
   have e4 : decide ((pre.length : Int) < (l.length : Int)) = true := by rw [h]; simp; omega
   have n := neqKv x
   simp only [go_sem, acondK_bool, e2, e3, e4, n, wrap_nat hb, k_drawn_q]
theorem sameKeysP (l : List Bytes) (A : AHeap) (hl : l.length ≤ 1099511627776) : acl D 32 [.d (.slice (srow l)), .d (.slice (srow l))] A = some (.d (.bool true), A) := by
 have hlen : (srow l).length = l.length := by simp [srow]
 rw [kD Tryz.func32 rfl Tryz.ntmps32 Tryz.results32]
 simp only [go_sem, acondK_bool, hlen]
 refine loop_any (fun pre => [(0, .v (.d (.slice (srow l)))), (1, .v (.d (.slice (srow l)))), (5, .v (.d (.int .i64 (pre.length : Nat))))]) (fun _ => A) (fun _ _ => some (.d (.bool true), A)) l rfl rfl rfl ?_
 intro pre suf h ih
 have hb : pre.length < 9223372036854775807 := by rw [h] at hl; simp at hl; omega
 cases suf with
 | nil =>
   have e4 : decide ((pre.length : Int) < (l.length : Int)) = false := by rw [h]; simp
   simp only [go_sem, acondK_bool, e4, hlen]
 | cons x suf =>
   have e2 := ih x suf rfl
   rw [List.length_append, List.length_cons, List.length_nil] at e2
   have e3 : (srow l)[pre.length]? = some [.str x] := by rw [h]; exact map_mid
   have e4 : decide ((pre.length : Int) < (l.length : Int)) = true := by rw [h]; simp; omega
   simp only [go_sem, acondK_bool, e2, e3, e4, hlen, beq_self_eq_true, wrap_nat hb, k_drawn_q]
set_option maxHeartbeats 1000000 in
theorem same15P (e : Ef) (A : AHeap) (he : e.Ok) : acl D 15 [e.av, e.av] A = some (.d (.bool true), A) := by
 have k1 := sameKeysP e.rd A he.rd
 have k2 := sameKeysP e.wr A he.wr
 have k3 := same06P e.ws A (Nat.le_trans he.ws.len (by decide))
 have hl := he.out
 obtain ⟨st, code, out, rd, wr, ws, miss, steps⟩ := e
 unfold Ef.av effAV
 simp only at k1 k2 k3 hl ⊢
 rw [kD Tryz.func15 rfl Tryz.ntmps15 Tryz.results15]
 simp only [go_sem, acondK_bool, k_drawn_t]
 refine Eq.trans ctB ?_
 simp only [go_sem, acondK_bool]
 refine loop_any (fun pre => [(3, .box [.d (.int .i64 st), .d (.int .i64 code), .d (.slice (out.map Vl.row)), .d (.slice (srow rd)), .d (.slice (srow wr)), .d (.slice (ws.map Kv.row)), .d (.str miss), .d (.int .i64 steps)]), (2, .box [.d (.int .i64 st), .d (.int .i64 code), .d (.slice (out.map Vl.row)), .d (.slice (srow rd)), .d (.slice (srow wr)), .d (.slice (ws.map Kv.row)), .d (.str miss), .d (.int .i64 steps)]), (5, .box [.d (.int .i64 st), .d (.int .i64 code), .d (.slice (out.map Vl.row))]), (6, .box [.d (.int .i64 st), .d (.int .i64 code), .d (.slice (out.map Vl.row))]), (7, .v (.d (.int .i64 (pre.length : Nat))))]) (fun _ => A) (fun _ _ => some (.d (.bool true), A)) out rfl rfl rfl ?_
 intro pre suf h ih
 have hb : pre.length < 9223372036854775807 := by rw [h] at hl; simp at hl; omega
 cases suf with
 | nil =>
   have e4 : decide ((pre.length : Int) < (out.length : Int)) = false := by rw [h]; simp
   simp only [go_sem, acondK_bool, e4, k1, k2, k3, beq_self_eq_true]
 | cons x suf =>
   have e2 := ih x suf rfl
   rw [List.length_append, List.length_cons, List.length_nil] at e2
   have e3 : (out.map Vl.row)[pre.length]? = some [.int .i64 x.kind, .int .i64 x.n, .str x.s] := by rw [h]; exact map_mid
   have e4 : decide ((pre.length : Int) < (out.length : Int)) = true := by rw [h]; simp; omega
   have n := neqVl x
   simp only [go_sem, acondK_bool, e2, e3, e4, n, wrap_nat hb, k_drawn_q]
end Go.Proofs.YtpbdjgdmhfibmaaGreatDoor
namespace Go.Proofs.YtpbdjgdmhfibmaaGreatDoor
open Go.Abs
def ltS (a b : Bytes) : Prop := Op.bytesLess a b = true
theorem ascS_pw : ∀ (l : List Bytes) (q : Option Bytes), ascS q l = true → l.Pairwise ltS ∧ ∀ k, q = some k → ∀ x ∈ l, ltS k x
 | [], q, _ => ⟨List.Pairwise.nil, by simp⟩
 | x :: l, q, h => by
   simp only [ascS, Bool.and_eq_true] at h
   obtain ⟨h1, h2, h3⟩ := h
   obtain ⟨p1, p2⟩ := ascS_pw l (some x) h3
   refine ⟨List.pairwise_cons.2 ⟨p2 x rfl, p1⟩, ?_⟩
   rintro k rfl y hy
   simp only at h2
   rcases List.mem_cons.1 hy with rfl | hy
   ·exact h2
   ·exact bl_trans _ _ _ h2 (p2 x rfl y hy)
theorem bsR_spec (l : List Bytes) (k : Bytes) (i j : Nat) : l.Pairwise ltS → i ≤ j → j ≤ l.length → (∀ a, a < i → ∀ x, l[a]? = some x → Op.bytesLess x k = true) → (∀ a, j ≤ a → ∀ x, l[a]? = some x → Op.bytesLess x k = false) →
  (∀ a, a < bsR l k i j → ∀ x, l[a]? = some x → Op.bytesLess x k = true) ∧ (∀ a, bsR l k i j ≤ a → ∀ x, l[a]? = some x → Op.bytesLess x k = false) := by
 fun_induction bsR l k i j with
 | case1 i j hlt hl ih =>
   intro hp h1 h2 h3 h4
   have hm : (i + j) / 2 < l.length := by omega
   refine ih hp (by omega) h2 ?_ h4
   intro a ha x hx
   have hg : l[(i + j) / 2]? = some (l.getD ((i + j) / 2) []) := by simp [hm]
   by_cases e : a = (i + j) / 2
   ·rw [e, hg] at hx
    cases hx
    exact hl
   ·have hlt2 : a < (i + j) / 2 := by omega
    have := List.pairwise_iff_getElem.1 hp a ((i + j) / 2) (by omega) hm hlt2
    rw [List.getElem?_eq_getElem (by omega)] at hx
    cases hx
    rw [List.getElem?_eq_getElem hm] at hg
    have hg := Option.some.inj hg
    rw [hg] at this
    exact bl_trans _ _ _ this hl
 | case2 i j hlt hl ih =>
   intro hp h1 h2 h3 h4
   have hm : (i + j) / 2 < l.length := by omega
   refine ih hp (by omega) (by omega) h3 ?_
   intro a ha x hx
   have hg : l[(i + j) / 2]? = some (l.getD ((i + j) / 2) []) := by simp [hm]
   have hl' : Op.bytesLess (l.getD ((i + j) / 2) []) k = false := by simpa using hl
   by_cases e : a = (i + j) / 2
   ·rw [e, hg] at hx
    cases hx
    exact hl'
   ·have hal : a < l.length := (List.getElem?_eq_some_iff.1 hx).1
    have hlt2 : (i + j) / 2 < a := by omega
    have := List.pairwise_iff_getElem.1 hp ((i + j) / 2) a hm hal hlt2
    rw [List.getElem?_eq_getElem hal] at hx
    cases hx
    rw [List.getElem?_eq_getElem hm] at hg
    have hg := Option.some.inj hg
    rw [hg] at this
    cases hc : Op.bytesLess l[a] k with
    | false => rfl
    | true => rw [bl_trans _ _ _ this hc] at hl'; cases hl'
 | case3 i j hlt =>
   intro hp h1 h2 h3 h4
   have e : i = j := by omega
   exact ⟨h3, fun a ha x hx => h4 a (by omega) x hx⟩
theorem sIn_mem {l : List Bytes} (hp : l.Pairwise ltS) {k : Bytes} (h : k ∈ l) : sIn l k = true := by
 obtain ⟨p, hpl, hpk⟩ := List.getElem_of_mem h
 obtain ⟨s1, s2⟩ := bsR_spec l k 0 l.length hp (Nat.zero_le _) (Nat.le_refl _) (fun a ha => by omega) (fun a ha x hx => by rw [List.getElem?_eq_none ha] at hx; cases hx)
 have hr := bsR_le l k 0 l.length (Nat.zero_le _)
 unfold sIn
 generalize bsR l k 0 l.length = r at *
 have hge : r ≤ p := by
  rcases Nat.lt_or_ge p r with hlt | hge
  ·have := s1 p hlt _ (List.getElem?_eq_getElem hpl)
   rw [hpk, bl_irr] at this
   cases this
  ·exact hge
 have heq : r = p := by
  rcases Nat.lt_or_ge r p with hlt | hge2
  ·have h1 := List.pairwise_iff_getElem.1 hp r p (by omega) hpl hlt
   have h2 := s2 r (Nat.le_refl _) _ (List.getElem?_eq_getElem (by omega))
   rw [hpk] at h1
   unfold ltS at h1
   rw [h2] at h1
   cases h1
  ·omega
 subst heq
 have e : l.getD r [] = k := by rw [List.getD_eq_getElem?_getD, List.getElem?_eq_getElem hpl, hpk]; rfl
 rw [e]
 simp [hpl]
theorem ascV_pw {l : List Bytes} (h : ascV l = true) : l.Pairwise ltS := by
 unfold ascV at h
 rw [Bool.and_eq_true] at h
 exact (ascS_pw l none h.1).1
theorem meet_no {a b : List Bytes} (hb : b.Pairwise ltS) (h : meetS a b = false) : ∀ k ∈ a, k ∉ b := by
 intro k hk hm
 unfold meetS at h
 have := List.any_eq_false.1 h k hk
 exact this (sIn_mem hb hm)
structure Apart (f g : Ft) : Prop where
 vf : f.V = true
 vg : g.V = true
 af : f.all = false
 ag : g.all = false
 ww : ∀ k ∈ f.wr, k ∉ g.wr
 wr : ∀ k ∈ f.wr, k ∉ g.rd
 rw : ∀ k ∈ f.rd, k ∉ g.wr
theorem apart_of {f g : Ft} (h : conflS f g = false) : Apart f g := by
 unfold conflS at h
 simp only [Bool.or_eq_false_iff, Bool.not_eq_false'] at h
 obtain ⟨⟨⟨⟨h1, h2⟩, h3⟩, h4⟩, ⟨h5, h6⟩, h7⟩ := h
 have v1 := h1
 have v2 := h2
 unfold Ft.V footV at h1 h2
 rw [h3] at h1
 rw [h4] at h2
 simp only [Bool.false_eq_true, if_false, Bool.and_eq_true] at h1 h2
 exact ⟨v1, v2, h3, h4, meet_no (ascV_pw h2.2) h5, meet_no (ascV_pw h2.1) h6, meet_no (ascV_pw h2.2) h7⟩
theorem Apart.symm {f g : Ft} (h : Apart f g) : Apart g f := ⟨h.vg, h.vf, h.ag, h.af, fun k hk hm => h.ww k hm hk, fun k hk hm => h.rw k hm hk, fun k hk hm => h.wr k hm hk⟩
def effT (ps : List Pr) (s : List Kv) (t : Tx) : Ef := match findS ps t with
 | some p => efS p t.args s t.foot
 | none => wrongE
theorem oneS_eq (ps : List Pr) (s : List Kv) (t : Tx) : oneS ps s t = (updK s (effT ps s t).st (effT ps s t).ws, effT ps s t) := by
 unfold oneS effT
 cases findS ps t with
 | some p => rfl
 | none => rfl
theorem effT_in (ps : List Pr) (s : List Kv) (t : Tx) (ha : t.foot.all = false) : ∀ x ∈ (effT ps s t).ws, x.key ∈ t.foot.wr := by
 unfold effT
 cases findS ps t with
 | some p => exact ef_in p t.args s t.foot ha
 | none => simp [wrongE]
theorem effT_same (ps : List Pr) (s k : List Kv) (t : Tx) (ha : t.foot.all = false) (hv : stV s = stV k) (hg : ∀ x ∈ t.foot.rd, getS s x = getS k x) : effT ps s t = effT ps k t := by
 unfold effT
 cases findS ps t with
 | some p => exact ef_same p t.args s k t.foot ha hv hg
 | none => rfl
theorem effT_after (ps : List Pr) (s : List Kv) {t u : Tx} (h : Apart t.foot u.foot) : effT ps (oneS ps s t).1 u = effT ps s u := by
 rw [oneS_eq]
 refine effT_same ps _ _ u h.ag (updK_stV _ _ _) fun x hx => updK_get _ _ _ _ fun p hp e => ?_
 have := effT_in ps s t h.af p hp
 rw [e] at this
 exact h.wr x this hx
theorem swap_ok (ps : List Pr) (s : List Kv) {t u : Tx} (h : Apart t.foot u.foot) : (roundS ps [t, u] s).1 = (roundS ps [u, t] s).1 ∧ (roundS ps [t, u] s).2 = [effT ps s t, effT ps s u] ∧ (roundS ps [u, t] s).2 = [effT ps s u, effT ps s t] := by
 have e1 := effT_after ps s h
 have e2 := effT_after ps s h.symm
 simp only [roundS]
 have a1 : ∀ s t, (oneS ps s t).2 = effT ps s t := fun s t => by rw [oneS_eq]
 have a2 : ∀ s t, (oneS ps s t).1 = updK s (effT ps s t).st (effT ps s t).ws := fun s t => by rw [oneS_eq]
 refine ⟨?_, by rw [a1, a1, e1], by rw [a1, a1, e2]⟩
 rw [a2 (oneS ps s t).1, a2 (oneS ps s u).1, e1, e2, a2, a2]
 exact updK_comm s _ _ _ _ fun p hp q hq e => h.ww p.key (effT_in ps s t h.af p hp) (by rw [e]; exact effT_in ps s u h.ag q hq)
end Go.Proofs.YtpbdjgdmhfibmaaGreatDoor
-- CTX FW
namespace Go.Proofs.YtpbdjgdmhfibmaaGreatDoor
open Go.Abs
attribute [local congr] ite_congr
set_option maxRecDepth 100000
theorem updK_ok {s : List Kv} {st : Int} {ws : List Kv} (hs : StOk s 1048576) (hw : StOk ws 1048576) : StOk (updK s st ws) 2097152 := by
 have base : StOk s 2097152 := ⟨Nat.le_trans hs.len (by decide), hs.ok⟩
 unfold updK
 split
 ·split
  ·rename_i h
   rw [Bool.and_eq_true] at h
   have h1 := (stV_iff.1 h.1).1
   have h2 := srt_iff.1 h.2
   refine ⟨Nat.le_trans (apM_len s ws) (by have := hs.len; have := hw.len; omega), fun p hp => ?_⟩
   rcases apM_sub h1 h2 hp with h | h
   ·exact hs.ok p h
   ·exact hw.ok p h
  ·exact base
 ·exact base
theorem updK_len (s : List Kv) (st : Int) (ws : List Kv) : (updK s st ws).length ≤ s.length + ws.length := by
 unfold updK
 split
 ·split
  ·exact apM_len s ws
  ·omega
 ·omega
theorem effT_ok {ps : List Pr} {s : List Kv} {t : Tx} (hp : PsOk ps) (hs : StOk s 2097152) (ht : t.Ok) (ha : t.foot.all = false) : (effT ps s t).Ok := by
 unfold effT
 cases hf : findS ps t with
 | some p => exact ef_ok (hp.ok p (find_mem hf)) ht.args hs ht.foot ha
 | none => exact wrongE_ok
theorem rnd_ok {ps : List Pr} {s : List Kv} {t u : Tx} (hp : PsOk ps) (hs : StOk s 1048576) (ht : t.Ok) (hu : u.Ok) (h : Apart t.foot u.foot) : RndOk ps [t, u] s ∧ (roundS ps [t, u] s).1.length ≤ 4194304 := by
 have base : StOk s 2097152 := ⟨Nat.le_trans hs.len (by decide), hs.ok⟩
 have e1 := effT_ok hp base ht h.af
 have o1 : StOk (oneS ps s t).1 2097152 := by rw [oneS_eq]; exact updK_ok hs e1.ws
 refine ⟨⟨base, ht, h.af, h.vf, o1, hu, h.ag, h.vg, trivial⟩, ?_⟩
 have e2 := effT_ok hp o1 hu h.ag
 simp only [roundS]
 rw [oneS_eq ps (oneS ps s t).1 u]
 have l := updK_len (oneS ps s t).1 (effT ps (oneS ps s t).1 u).st (effT ps (oneS ps s t).1 u).ws
 have := o1.len
 have := e2.ws.len
 simp only
 omega
theorem acl_cleanF {f : FuncId} {fn : Func} {code : Code} {args args' : List AV} {A : AHeap} (hg : FW.ext f = none) (hf : FW.P.funcs[f]? = some fn) (hb : fn.body = some code) (hk : fnOk FW.P f = true) (hn : args.length ≤ fn.ntmps) (hn' : args'.length ≤ fn.ntmps)
  (ho : FW.own f = false) (key : acleanVs A args = (args', A)) (key' : acleanVs A args' = (args', A)) : acl FW f args A = acl FW f args' A := by
 rw [acl_eq hg hf hb hk hn, acl_eq hg hf hb hk hn']
 simp only [ho, Bool.false_eq_true, if_false, key, key']
theorem lawTopIndependent (ps : List Pr) (s : List Kv) (t u : Tx) (hp : PsOk ps) (hs : StOk s 1048576) (ht : t.Ok) (hu : u.Ok) :
  acl FW 4 [.d (.slice (ps.map Pr.row)), .d (.slice (s.map Kv.row)), .agg t.cs, .agg u.cs] A00 = some (.d (.bool true), A00) := by
 have c := upF (up (conflictsP t.foot u.foot ht.foot hu.foot A00))
 have w := workF A00
 unfold Tx.cs
 unfold Ft.av at c
 rw [kFW Tryz.func4 rfl Tryz.ntmps4 Tryz.results4]
 cases hc : conflS t.foot u.foot with
 | true =>
   rw [hc] at c
   simp only [go_sem, acondK_bool, c, w]
 | false =>
 rw [hc] at c
 have ap := apart_of hc
 obtain ⟨r1, z1⟩ := rnd_ok hp hs ht hu ap
 obtain ⟨r2, z2⟩ := rnd_ok hp hs hu ht ap.symm
 have q1 := upF (roundTP ps s [t, u] A00 hp (by simp) r1 z1)
 have q2 := upF (roundTP ps s [u, t] A00 hp (by simp) r2 z2)
 obtain ⟨s1, s2, s3⟩ := swap_ok ps s ap
 have base : StOk s 2097152 := ⟨Nat.le_trans hs.len (by decide), hs.ok⟩
 have e1 := effT_ok hp base ht ap.af
 have e2 := effT_ok hp base hu ap.ag
 rw [s2] at q1
 rw [s3, ← s1] at q2
 have k0 := upF (same06P (roundS ps [t, u] s).1 A00 (Nat.le_trans z1 (by decide)))
 have k1 := upF (same15P (effT ps s t) A00 e1)
 have k2 := upF (same15P (effT ps s u) A00 e2)
 generalize (roundS ps [t, u] s).1 = x at *
 generalize effT ps s t = a at *
 generalize effT ps s u = b at *
 have cl : ∀ (r : List (List Dat)) (B : AHeap), acl FW 13 [.d (.slice (ps.map Pr.row)), .d (.slice (s.map Kv.row)), .full r] B = acl FW 13 [.d (.slice (ps.map Pr.row)), .d (.slice (s.map Kv.row)), .d (.slice r)] B := fun r B =>
  acl_cleanF rfl Tryz.func13 rfl (ok 13 (by kernel_rfl)) (show 3 ≤ Tryz.f13.ntmps by decide) (show 3 ≤ Tryz.f13.ntmps by decide) rfl rfl rfl
 have q1' := cl [t.row, u.row] A00
 have q2' := cl [u.row, t.row] A00
 simp only [List.map_cons, List.map_nil] at q1 q2
 rw [q1] at q1'
 rw [q2] at q2'
 unfold Tx.row Ef.row at q1' q2'
 unfold Ef.av effAV at k1 k2
 simp only [go_sem, acondK_bool, c, q1', q2', k_drawn_q, k0, k1, k2, w]
 rfl
end Go.Proofs.YtpbdjgdmhfibmaaGreatDoor
namespace Go.Proofs.YtpbdjgdmhfibmaaGreatDoor
open Go.ChangeShapes Go.WideShapes Go.ChangeAt Go.RowKit
open Go.Abs
theorem bulk_sum {H : Type} : ∀ (l : List (DataW H)), sumB Rows.uptoBulk l = Rows.uptoBulkAll l
 | [] => by rw [sumB, Rows.uptoBulkAll]
 | x :: l => by rw [sumB, Rows.uptoBulkAll, bulk_sum l]
theorem bulkW {H : Type} : BulkW (Rows.uptoBulk (H := H)) where
 str s := by unfold Rows.uptoBulk; simp
 agg l d h := by
  have := bulk_mem h
  have e : Rows.uptoBulk (.agg l) = Rows.uptoBulkAll l + 1 := by rw [Rows.uptoBulk]
  omega
 len l sp := by
  have := bulk_len l
  have e : Rows.uptoBulk (.slice l sp) = Rows.uptoBulkAll l + Rows.uptoBulkAll sp + 1 := by rw [Rows.uptoBulk]
  omega
 elem l sp d h := by
  have := bulk_mem h
  have e : Rows.uptoBulk (.slice l sp) = Rows.uptoBulkAll l + Rows.uptoBulkAll sp + 1 := by rw [Rows.uptoBulk]
  omega
 pos := bulk_pos
 wstr s := by unfold Rows.uptoBulk; exact Nat.le_refl _
 wagg l := by
  have e : Rows.uptoBulk (.agg l) = Rows.uptoBulkAll l + 1 := by rw [Rows.uptoBulk]
  rw [bulk_sum]
  omega
 wslice l sp := by
  have e : Rows.uptoBulk (.slice l sp) = Rows.uptoBulkAll l + Rows.uptoBulkAll sp + 1 := by rw [Rows.uptoBulk]
  rw [bulk_sum]
  omega
def goodTU : List TypeId := [4, 3, 2, 9, 33, 62, 60, 25, 39, 53, 22, 64, 23, 69, 26, 71, 27, 41, 43]
theorem planU : planT Tryz.prog goodTU = true := by kernel_rfl
noncomputable def structT (t : TypeId) : Bool := match Tryz.prog.underlying t with
 | some (.struct _) => true
 | _ => false
def GoodU (t : TypeId) (x : AV) : Prop := ∃ n ds, shapeT Tryz.prog 1048576 n t ds ∧ wRow ds ≤ 1048576 ∧ if structT t = true then x = .agg (ds.map .d) else ∃ d, ds = [d] ∧ x = .d d
theorem cells_oneU {v : Value} (h : ∀ cs, v ≠ .agg cs) : v.cells.toList = [v] := by
 cases v with
 | agg cs => exact absurd rfl (h cs)
 | _ => rfl
theorem good_rdU {H : Type} {enc : TypeId × Value → H} {W : World} {base : Nat} : ∀ t v (d : DataW H) ps, t ∈ goodTU → Value.okWide Tryz.prog W .any base t v → DataW.Trod enc Tryz.prog W 0 (fun _ => true) true t v d ps → Rows.uptoBulk d ≤ 1048576 →
  ∃ x, GoodU t x ∧ ∀ A, RelV W (gh0 W) A x v := by
 intro t v d ps ht hw h hb
 obtain ⟨n, hn⟩ := h
 have hk := List.all_eq_true.1 planU t ht
 obtain ⟨ds, h1, h2, h3⟩ := readW (N := 1048576) planU bulkW n t v.cells.toList _ (List.contains_iff_mem.2 ht) hn hb
 have hone : structT t = false → (∀ cs, v ≠ .agg cs) → ∃ x, GoodU t x ∧ ∀ A, RelV W (gh0 W) A x v := by
  intro hs hv
  rw [cells_oneU hv] at h1
  obtain ⟨x, rfl⟩ : ∃ x, ds = [x] := by
   have := h1.1
   match ds, this with
   | [x], _ => exact ⟨x, rfl⟩
   | [], h => simp at h
   | _ :: _ :: _, h => simp at h
  exact ⟨.d x, ⟨n, [x], h2, Nat.le_trans h3 hb, by rw [hs]; exact ⟨x, rfl, rfl⟩⟩, fun A => rel_one h1⟩
 cases hu : Tryz.prog.underlying t with
 | none => rw [hu] at hk; cases hk
 | some u =>
   rw [hu] at hk
   have hs : structT t = match (some u : Option TypeDesc) with | some (.struct _) => true | _ => false := by unfold structT; rw [hu]
   cases u with
   | struct fs =>
     unfold Value.okWide at hw
     rw [hu] at hw
     obtain ⟨cs, rfl, -, -⟩ := hw
     exact ⟨.agg (ds.map .d), ⟨n, ds, h2, Nat.le_trans h3 hb, by rw [hs]; rfl⟩, fun A => rel_agg h1⟩
   | bool | int _ | string | slice _ =>
     refine hone hs fun cs he => ?_
     subst he
     unfold Value.okWide at hw
     rw [hu] at hw
     change Cell.okWide Tryz.prog W .any base t (Value.agg cs) at hw
     simp only [Cell.okWide, Cell.ok, hu] at hw
   | _ => cases hk
theorem good_struct {t : TypeId} {x : AV} (h : GoodU t x) (hs : structT t = true) : ∃ n ds, shapeT Tryz.prog 1048576 n t ds ∧ wRow ds ≤ 1048576 ∧ x = .agg (ds.map .d) := by
 obtain ⟨n, ds, h1, h2, h3⟩ := h
 rw [hs] at h3
 exact ⟨n, ds, h1, h2, h3⟩
theorem good_one {t : TypeId} {x : AV} (h : GoodU t x) (hs : structT t = false) : ∃ n d, shapeT Tryz.prog 1048576 n t [d] ∧ wD d ≤ 1048576 ∧ x = .d d := by
 obtain ⟨n, ds, h1, h2, h3⟩ := h
 rw [hs] at h3
 obtain ⟨d, rfl, h3⟩ := h3
 exact ⟨n, d, h1, by simpa [wRow] using h2, h3⟩
theorem cell_pair : Tryz.prog.cellsOf 71 = 4 := by kernel_rfl
theorem cell_value : Tryz.prog.cellsOf 69 = 3 := by kernel_rfl
theorem readKv (n : Nat) (ds : List Dat) (h : shapeT Tryz.prog 1048576 n 71 ds) : ∃ p : Kv, (p.key.length ≤ 1099511627776 ∧ p.v.Ok) ∧ ds = p.row := by
 obtain ⟨k, rfl, hl, hf⟩ := shape_struct (l := [(9, 0), (69, 1)]) ⟨_, Tryz.underlying71, rfl⟩ h
 rw [cell_pair] at hl
 obtain ⟨d0, d1, d2, d3, rfl⟩ := len4 hl
 have h0 := hf (9, 0) (by simp)
 have h1 := hf (69, 1) (by simp)
 simp only [exprTy.cstr, cell_value, List.drop_zero, List.drop_succ_cons, List.take_succ_cons, List.take_zero] at h0 h1
 obtain ⟨s, rfl, hs⟩ := shape_str exprTy.str h0
 obtain ⟨v, hv, he⟩ := readVl k _ h1
 refine ⟨⟨s, v⟩, ⟨by show s.length ≤ _; omega, hv⟩, ?_⟩
 show [Dat.str s, d1, d2, d3] = _
 rw [he]
 rfl
set_option maxRecDepth 100000 in
theorem goodPairs {x : AV} (h : GoodU 27 x) : ∃ l : List Kv, (l.length ≤ 1048576 ∧ ∀ p ∈ l, p.key.length ≤ 1099511627776 ∧ p.v.Ok) ∧ x = .d (.slice (l.map Kv.row)) := by
 obtain ⟨n, d, h1, h2, rfl⟩ := good_one h (by kernel_rfl)
 obtain ⟨k, rows, rfl, rfl, hr, hrows⟩ := shape_slice Tryz.underlying27 h1
 obtain ⟨l, rfl, hll, hok⟩ := rows_of (ok := fun p : Kv => p.key.length ≤ 1099511627776 ∧ p.v.Ok) (row := Kv.row) fun r hr => readKv k r (hrows r hr).2
 exact ⟨l, ⟨by omega, hok⟩, rfl⟩
theorem shape_bool {n : Nat} {d : Dat} {t : TypeId} (hu : Tryz.prog.underlying t = some .bool) (h : shapeT Tryz.prog 1048576 n t [d]) : ∃ b, d = .bool b := by
 cases n with
 | zero => cases h
 | succ n =>
   simp only [shapeT, hu] at h
   obtain ⟨b, h⟩ := h
   cases h
   exact ⟨b, rfl⟩
theorem readSs {n : Nat} {d : Dat} (h : shapeT Tryz.prog 1048576 n 33 [d]) : ∃ l : List Bytes, (l.length ≤ 1099511627776 ∧ ∀ k ∈ l, k.length ≤ 1099511627776) ∧ d = .slice (srow l) := by
 obtain ⟨k, rows, rfl, rfl, hr, hrows⟩ := shape_slice Tryz.underlying33 h
 obtain ⟨l, rfl, hll, hok⟩ := rows_of (ok := fun s : Bytes => s.length ≤ 1099511627776) (row := fun s => [.str s]) fun r hr => by
  obtain ⟨h1, h2⟩ := hrows r hr
  rw [exprTy.cstr] at h1
  match r, h1 with
  | [x], _ =>
    obtain ⟨s, rfl, hs⟩ := shape_str exprTy.str h2
    exact ⟨s, by omega, rfl⟩
 exact ⟨l, ⟨by omega, hok⟩, rfl⟩
theorem len7 {l : List Dat} (h : l.length = 7) : ∃ a b c d e f g, l = [a, b, c, d, e, f, g] := by
 match l, h with
 | [a, b, c, d, e, f, g], _ => exact ⟨a, b, c, d, e, f, g, rfl⟩
theorem cell_bool : Tryz.prog.cellsOf 4 = 1 := by kernel_rfl
theorem cell_strs : Tryz.prog.cellsOf 33 = 1 := by kernel_rfl
theorem cell_vals : Tryz.prog.cellsOf 26 = 1 := by kernel_rfl
theorem cell_foot : Tryz.prog.cellsOf 41 = 3 := by kernel_rfl
theorem cell_txn : Tryz.prog.cellsOf 43 = 7 := by kernel_rfl
theorem readFt (n : Nat) (ds : List Dat) (h : shapeT Tryz.prog 1048576 n 41 ds) : ∃ f : Ft, f.Ok ∧ ds = [.bool f.all, .slice (srow f.rd), .slice (srow f.wr)] := by
 obtain ⟨k, rfl, hl, hf⟩ := shape_struct (l := [(4, 0), (33, 1), (33, 2)]) ⟨_, Tryz.underlying41, rfl⟩ h
 rw [cell_foot] at hl
 obtain ⟨d0, d1, d2, rfl⟩ := len3 hl
 have h0 := hf (4, 0) (by simp)
 have h1 := hf (33, 1) (by simp)
 have h2 := hf (33, 2) (by simp)
 simp only [cell_bool, cell_strs, List.drop_zero, List.drop_succ_cons, List.take_succ_cons, List.take_zero] at h0 h1 h2
 obtain ⟨b, rfl⟩ := shape_bool Tryz.underlying4 h0
 obtain ⟨r, hr, rfl⟩ := readSs h1
 obtain ⟨w, hw, rfl⟩ := readSs h2
 exact ⟨⟨b, r, w⟩, ⟨hr.1, hw.1, hr.2, hw.2⟩, rfl⟩
theorem readTx (n : Nat) (ds : List Dat) (h : shapeT Tryz.prog 1048576 n 43 ds) : ∃ t : Tx, t.Ok ∧ ds = t.row := by
 obtain ⟨k, rfl, hl, hf⟩ := shape_struct (l := [(2, 0), (9, 1), (26, 2), (41, 3), (3, 6)]) ⟨_, Tryz.underlying43, rfl⟩ h
 rw [cell_txn] at hl
 obtain ⟨d0, d1, d2, d3, d4, d5, d6, rfl⟩ := len7 hl
 have h0 := hf (2, 0) (by simp)
 have h1 := hf (9, 1) (by simp)
 have h2 := hf (26, 2) (by simp)
 have h3 := hf (41, 3) (by simp)
 have h4 := hf (3, 6) (by simp)
 simp only [exprTy.cint, exprTy.ci, exprTy.cstr, cell_vals, cell_foot, List.drop_zero, List.drop_succ_cons, List.take_succ_cons, List.take_zero] at h0 h1 h2 h3 h4
 obtain ⟨i, rfl, hi⟩ := shape_i64 exprTy.i h0
 obtain ⟨p, rfl, hp⟩ := shape_str exprTy.str h1
 obtain ⟨j, rows, _, rfl, hr, hrows⟩ := shape_slice Tryz.underlying26 h2
 obtain ⟨l, rfl, hll, hok⟩ := rows_of (ok := Vl.Ok) (row := Vl.row) fun r hr => readVl j r (hrows r hr).2
 obtain ⟨f, hfo, he⟩ := readFt _ _ h3
 simp only [List.cons.injEq, and_true] at he
 obtain ⟨rfl, rfl, rfl⟩ := he
 obtain ⟨m, rfl, hm⟩ := shape_i64 exprTy.int h4
 exact ⟨⟨i, p, l, f, m⟩, ⟨hok, hfo⟩, rfl⟩
set_option maxRecDepth 100000 in
theorem goodTxn {x : AV} (h : GoodU 43 x) : ∃ t : Tx, t.Ok ∧ x = .agg t.cs := by
 obtain ⟨n, ds, h1, h2, rfl⟩ := good_struct h (by kernel_rfl)
 obtain ⟨t, ht, rfl⟩ := readTx n ds h1
 exact ⟨t, ht, rfl⟩
set_option maxRecDepth 100000 in
theorem goodProcs {x : AV} (h : GoodU 39 x) : ∃ l : List Pr, PsOk l ∧ x = .d (.slice (l.map Pr.row)) := by
 obtain ⟨n, d, h1, h2, rfl⟩ := good_one h (by kernel_rfl)
 obtain ⟨k, rows, rfl, rfl, hr, hrows⟩ := shape_slice Tryz.underlying39 h1
 obtain ⟨l, rfl, hll, hok⟩ := rows_of (ok := Pr.Ok) (row := Pr.row) fun r hr => readP procTy (by decide) k r (hrows r hr).2
 exact ⟨l, ⟨by omega, hok⟩, rfl⟩
theorem goodState {x : AV} (h : GoodU 27 x) : ∃ l : List Kv, StOk l 1048576 ∧ x = .d (.slice (l.map Kv.row)) := by
 obtain ⟨l, h1, h2⟩ := goodPairs h
 exact ⟨l, ⟨h1.1, h1.2⟩, h2⟩
theorem call_at {f : FuncId} {xs : List AV} {b : Bool} {A' : AHeap} (h : acl FW f xs A00 = some (.d (.bool b), A')) {W : World} {vs : List Value} (hi : Lib.TabIs Tryz.prog W "internal/strconv.uint64pow10" .u64 Lib.pow10Tab) (hr : RelL W (gh0 W) A00 xs vs) :
  Calls Tryz.prog f vs.toArray W fun e W' => e = .returned (.bool b) ∧ Go.Abs.Grown W W' ∧ Go.Abs.Stands W W' :=
 call_lawI IT_closed mixedF extOkF h (varI_top hi) hr
set_option maxRecDepth 100000 in
theorem lawNI10 {H : Type} {enc : TypeId × Value → H} {f : FuncId} {fn : Func} {s : ChangeSpec} {tb : TypeId} {W : World} {base N : Nat} {args : Array Value} {ds gs : List (DataW H)} {before : List MemPlace} {B : DataW H → Nat} {GoodU : TypeId → AV → Prop} {T : List TypeId}
  (hi : Lib.TabIs Tryz.prog W "internal/strconv.uint64pow10" .u64 Lib.pow10Tab)
  (hl : laidOutB Tryz.prog = true) (hread : ∀ t ∈ fn.params.toList, Tryz.prog.readableRec t = true ∧ t < Tryz.prog.types.size) (hT : ∀ t ∈ fn.params.toList, t ∈ T)
  (hres : fn.resultTypes = #[tb]) (htb : Tryz.prog.underlying tb = some .bool) (hone : Tryz.prog.cellsOf tb = 1) (hvars : s.vars = []) (hfn : ∀ ds : List (DataW H), ds.length = fn.params.toList.length → s.fn H ds = { results := [.lit (.bool true)], args := ds })
  (hval : ∀ (j : Nat) t v, fn.params[j]? = some t → args[j]? = some v → Value.okWide Tryz.prog W .any base t v)
  (hW : DataW.Whole enc Tryz.prog fn.params.toList s.vars false W args.toList ds gs before) (hk : ∀ d ∈ ds, B d ≤ N)
  (rd : ∀ t v d ps, t ∈ T → Value.okWide Tryz.prog W .any base t v → DataW.Trod enc Tryz.prog W 0 (fun _ => true) true t v d ps → B d ≤ N → ∃ x, GoodU t x ∧ ∀ A, RelV W (gh0 W) A x v)
  (law : ∀ xs, goods GoodU fn.params.toList xs → acl FW f xs A00 = some (.d (.bool true), A00)) :
  Calls Tryz.prog f args W fun e W' => ∃ v, e = .returned v ∧ s.post enc Tryz.prog fn false true false false W args v W' := by
 have hW' := hW
 obtain ⟨p, q, hA, hV, rfl, hfz, hnd⟩ := hW
 obtain ⟨hlen, xs, hg, hxl, hrel⟩ := trod_rel rd fn.params.toList args.toList ds p hT hA (fun j t v h1 h2 => hval j t v (by simpa using h1) (by simpa using h2)) hk
 have hcall := call_at (law xs hg) (W := W) (vs := args.toList) hi ⟨hxl, fun i x v h1 h2 => hrel _ i x v h1 h2⟩
 exact law_post hl hread hvars hres htb hone hW' (hfn ds hlen) (by simpa using hcall)
set_option maxRecDepth 100000 in
theorem lawG10 {H : Type} {enc : TypeId × Value → H} {f : FuncId} {fn : Func} {s : ChangeSpec} {W : World} {base : Nat} {args : Array Value} {ds gs : List (DataW H)} {before : List MemPlace}
  (hpar : fn.params.toList.all (goodTU.contains ·) = true) (hres : fn.resultTypes = #[4]) (hvars : s.vars = []) (hfn : ∀ ds : List (DataW H), ds.length = fn.params.toList.length → s.fn H ds = { results := [.lit (.bool true)], args := ds })
  (hval : ∀ (j : Nat) t v, fn.params[j]? = some t → args[j]? = some v → Value.okWide Tryz.prog W .any base t v)
  (hW : DataW.Whole enc Tryz.prog fn.params.toList s.vars false W args.toList ds gs before) (hk : Rows.uptoSmall H (ds ++ gs) = true)
  (hi : Lib.TabIs Tryz.prog W "internal/strconv.uint64pow10" .u64 Lib.pow10Tab)
  (law : ∀ xs, goods GoodU fn.params.toList xs → acl FW f xs A00 = some (.d (.bool true), A00)) :
  Calls Tryz.prog f args W fun e W' => ∃ v, e = .returned v ∧ s.post enc Tryz.prog fn false true false false W args v W' := by
 have hT : ∀ t ∈ fn.params.toList, t ∈ goodTU := fun t ht => by
  have := List.all_eq_true.1 hpar t ht
  exact List.contains_iff_mem.1 this
 have hsz : Rows.uptoBulkAll (ds ++ gs) ≤ 1048576 := by simpa [Rows.uptoSmall] using hk
 exact lawNI10 hi laid (fun t ht => by
   have : goodTU.all (fun t => Tryz.prog.readableRec t && decide (t < Tryz.prog.types.size)) = true := by kernel_rfl
   have := List.all_eq_true.1 this t (hT t ht)
   simpa using this) hT hres Tryz.underlying4 (by kernel_rfl) hvars hfn hval hW
  (fun d hd => Nat.le_trans (bulk_mem (List.mem_append_left _ hd)) hsz) good_rdU law
/- the table, from the row's list -/
theorem gTab : Tryz.prog.globalNamed "internal/strconv.uint64pow10" = some 1 := by kernel_rfl
theorem gTabType : (Tryz.prog.globals[1]?).map (·.type) = some 294 := by kernel_rfl
theorem cellsTab : Tryz.prog.cellsOf 294 = 20 := by kernel_rfl
theorem cellsU : Tryz.prog.cellsOf 233 = 1 := by kernel_rfl
theorem table {W : World} (h : laidMetH Tryz.prog [("math/bits.deBruijn32tab", Rows.laid_math_bits_deBruijn32tab), ("math/bits.deBruijn64tab", Rows.laid_math_bits_deBruijn64tab), ("internal/strconv.uint64pow10", Rows.laid_internal_strconv_uint64pow10)] W) : Lib.TabIs Tryz.prog W "internal/strconv.uint64pow10" .u64 Lib.pow10Tab := by
 rw [MakeChecks.laidMetH_plain _ _ _ (by kernel_rfl)] at h
 exact Lib.tabIs_of_head (rest := []) gTab gTabType Tryz.underlying294 Tryz.underlying233 cellsU cellsTab h.tail.tail
def setCells (cs : Array Value) : Obj → Obj
 | .cells _ t frozen => .cells cs t frozen
 | o => o
noncomputable def laidWorld (os : Os) : World :=
 { World.holding Tryz.prog os ⟨#[], #[], []⟩ with heap := (((World.holding Tryz.prog os ⟨#[], #[], []⟩).heap.modify 1 (setCells #[.int .u64 1, .int .u64 10, .int .u64 100, .int .u64 1000, .int .u64 10000, .int .u64 100000, .int .u64 1000000, .int .u64 10000000, .int .u64 100000000, .int .u64 1000000000, .int .u64 10000000000, .int .u64 100000000000, .int .u64 1000000000000, .int .u64 10000000000000, .int .u64 100000000000000, .int .u64 1000000000000000, .int .u64 10000000000000000, .int .u64 100000000000000000, .int .u64 1000000000000000000, .int .u64 10000000000000000000])).modify 2 (setCells #[.int .u8 0, .int .u8 1, .int .u8 28, .int .u8 2, .int .u8 29, .int .u8 14, .int .u8 24, .int .u8 3, .int .u8 30, .int .u8 22, .int .u8 20, .int .u8 15, .int .u8 25, .int .u8 17, .int .u8 4, .int .u8 8, .int .u8 31, .int .u8 27, .int .u8 13, .int .u8 23, .int .u8 21, .int .u8 19, .int .u8 16, .int .u8 7, .int .u8 26, .int .u8 12, .int .u8 18, .int .u8 6, .int .u8 11, .int .u8 5, .int .u8 10, .int .u8 9])).modify 3 (setCells #[.int .u8 0, .int .u8 1, .int .u8 56, .int .u8 2, .int .u8 57, .int .u8 49, .int .u8 28, .int .u8 3, .int .u8 61, .int .u8 58, .int .u8 42, .int .u8 50, .int .u8 38, .int .u8 29, .int .u8 17, .int .u8 4, .int .u8 62, .int .u8 47, .int .u8 59, .int .u8 36, .int .u8 45, .int .u8 43, .int .u8 51, .int .u8 22, .int .u8 53, .int .u8 39, .int .u8 33, .int .u8 30, .int .u8 24, .int .u8 18, .int .u8 12, .int .u8 5, .int .u8 63, .int .u8 55, .int .u8 48, .int .u8 27, .int .u8 60, .int .u8 41, .int .u8 37, .int .u8 16, .int .u8 46, .int .u8 35, .int .u8 44, .int .u8 21, .int .u8 52, .int .u8 32, .int .u8 23, .int .u8 11, .int .u8 54, .int .u8 26, .int .u8 40, .int .u8 15, .int .u8 34, .int .u8 20, .int .u8 31, .int .u8 10, .int .u8 25, .int .u8 14, .int .u8 19, .int .u8 9, .int .u8 13, .int .u8 8, .int .u8 7, .int .u8 6]) }
end Go.Proofs.YtpbdjgdmhfibmaaGreatDoor
