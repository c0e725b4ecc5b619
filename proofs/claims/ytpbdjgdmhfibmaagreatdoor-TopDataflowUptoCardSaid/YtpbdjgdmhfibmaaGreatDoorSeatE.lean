/- The types of expressions: the walk of the program's function. -/
import Derived.Test.YtpbdjgdmhfibmaaGreatDoorSeatD
import Derived.Test.YtpbdjgdmhfibmaaGreatDoorSeatC
import Derived.Test.YtpbdjgdmhfibmaaGreatDoorSeatA
import Derived.Test.YtpbdjgdmhfibmaaGreatDoorGenC
set_option linter.unusedVariables false
set_option linter.unusedSimpArgs false
set_option linter.all false
set_option linter.deprecated false
set_option linter.all false
namespace Go.Proofs.YtpbdjgdmhfibmaaGreatDoor
open Go.Abs
attribute [local congr] ite_congr
set_option maxRecDepth 10000
theorem chkL_mem : ∀ (l : List E) (d : Int), chkL l d = 0 → ∀ x ∈ l, chkE x d = 0
 | [], _, _, x, h => by simp at h
 | y :: l, d, h, x, hx => by
   rw [chkL_cons] at h
   rcases List.mem_cons.1 hx with rfl | hx
   ·exact h.1
   ·exact chkL_mem l d h.2 x hx
theorem grI_get {l : List Int} {i : Nat} {x : Int} (h : l[i]? = some x) : (l.map iRow)[i]? = some [.int .i64 x] := by
 rw [List.getElem?_map, h]; rfl
theorem typeOfE (id : Nat) (vis : NM) : ∀ e, E.Ok e → ∀ d, chkE e d = 0 → ∀ (A : AHeap), A.objs[id]? = some (.map (mi vis)) →
  acl C 180 [E.av e, .mapr id] A = some (.tuple [.d (.int .i64 (ofE vis.get e).1), .d (.int .i64 (ofE vis.get e).2)], A) := by
 intro e
 induction e using E.ind with
 | h op n s args ih =>
   intro hok d hv A hid
   rw [chkE_zero] at hv
   obtain ⟨hn, hL⟩ := hv
   have hlen := hok.fit
   have hz := nodeS_zero hn
   rw [k_call (c := C) (f := 180) rfl Tryz.func180 rfl (ok 180 (by kernel_rfl)) rfl Tryz.ntmps180 Tryz.results180 (by simp)]
   cases h3 : decide (op = 3) with
   | true =>
     simp only [ofE, h3, if_true]
     have hf := afind_mi s vis
     cases hg : vis.get s with
     | none =>
       rw [hg, Option.map_none] at hf
       simp (maxSteps := 1000000) only [go_sem, acondK_bool, h3, hid, hf, varS]
     | some t =>
       rw [hg, Option.map_some] at hf
       cases ht : (decide (t < 1) || decide (3 < t)) with
       | true => simp (maxSteps := 1000000) +contextual only [go_sem, acondK_bool, h3, hid, hf, varS, ht]
       | false => simp (maxSteps := 1000000) +contextual only [go_sem, acondK_bool, h3, hid, hf, varS, ht]
   | false =>
   simp only [ofE, h3, Bool.false_eq_true, if_false]
   simp (maxSteps := 1000000) only [go_sem, acondK_bool, h3]
   refine loop_any (fun pre => [(40, .v (.d (.int .i64 (args.length : Nat)))), (2, .box [.d (.int .i64 op), .d (.int .i64 n), .d (.str s), .d (.slice (args.map E.row))]), (39, .v (.d (.slice (args.map E.row)))), (1, .v (.mapr id)), (41, .v (.d (.int .i64 (pre.length : Nat)))), (8, .v (grI A (pre.map fun x => (ofE vis.get x).1)).1)])
    (fun pre => (grI A (pre.map fun x => (ofE vis.get x).1)).2) (fun pre suf => some (.tuple [.d (.int .i64 (ofL vis.get op (pre.map fun x => (ofE vis.get x).1) suf).1), .d (.int .i64 (ofL vis.get op (pre.map fun x => (ofE vis.get x).1) suf).2)], A)) args rfl rfl rfl ?_
   intro pre suf hl ih2
   have hb : pre.length < 9223372036854775807 := by rw [hl] at hlen; simp at hlen; omega
   cases suf with
   | cons x suf =>
     have hx : x ∈ args := by rw [hl]; simp
     have e1 := ih x hx (hok.arg x hx) _ (chkL_mem args _ hL x hx) (grI A (pre.map fun x => (ofE vis.get x).1)).2 (by rw [growObjs]; exact hid)
     have e2 := ih2 x suf rfl
     rw [List.length_append, List.length_cons, List.length_nil, List.map_append, List.map_cons, List.map_nil] at e2
     have e3 : (args.map E.row)[pre.length]? = some (E.row x) := by rw [hl]; exact map_mid
     have e4 : decide ((pre.length : Int) < (args.length : Int)) = true := by rw [hl]; simp; omega
     have e5 := grI_append A (pre.map fun x => (ofE vis.get x).1) (ofE vis.get x).1 (by rw [hl] at hlen; simp at hlen ⊢; omega)
     have e6 := fun a b => afin_growN (f := 180) rfl A 3 1 ((pre.map fun x => (ofE vis.get x).1).map iRow) a b
     rw [E.row_eq] at e3
     cases h5 : decide ((ofE vis.get x).2 = 0) with
     | true => simp (maxSteps := 1000000) only [go_sem, acondK_bool, e3, e4, e1, e5, h5, ofL, e2, wrap_nat hb]
     | false => simp (maxSteps := 1000000) only [go_sem, acondK_bool, e3, e4, e1, h5, ofL, e6]
   | nil =>
     rw [List.append_nil] at hl
     subst hl
     have e6 := fun a b => afin_growN (f := 180) rfl A 3 1 ((args.map fun x => (ofE vis.get x).1).map iRow) a b
     have e7 : ((args.map fun x => (ofE vis.get x).1).length : Int) = ar op := by rw [List.length_map]; exact hz.2.2.1
     have e8 : (args.map fun x => (ofE vis.get x).1).length ≤ 4194303 := by rw [List.length_map]; exact hlen
     simp only [ofL]
     generalize (args.map fun x => (ofE vis.get x).1) = ts at *
     unfold finS
     cases h6 : (decide (10 ≤ op) && decide (op ≤ 15)) with
     | true =>
       have ho : 10 ≤ op ∧ op ≤ 15 := by simpa using h6
       have h2 : ts.length = 2 := by
        have : ar op = 2 := by unfold ar; rw [if_neg (by omega), if_neg (by omega), if_neg (by omega)]
        omega
       have g6 : decide (10 ≤ op) = true := by simp; omega
       have g7 : decide (op ≤ 15) = true := by simp; omega
       obtain ⟨x, y, rfl⟩ : ∃ x y, ts = [x, y] := by
        match ts, h2 with
        | [x, y], _ => exact ⟨x, y, rfl⟩
       have i0 : aindex 1 (grI A [x, y]).2 0 (grI A [x, y]).1 = some (.eptr A.bufs.length 2 0 0) := aindex_growG (i := 0) (by simp)
       have i1 : aindex 1 (grI A [x, y]).2 1 (grI A [x, y]).1 = some (.eptr A.bufs.length 2 1 0) := aindex_growG (i := 1) (by simp)
       have l0 : ∀ nn agg, aload (grI A [x, y]).2 nn agg (.eptr A.bufs.length 2 0 0) = apart [.d (.int .i64 x)] 0 nn agg := fun nn agg => aload_growG (rows := [x, y].map iRow) (i := 0) rfl
       have l1 : ∀ nn agg, aload (grI A [x, y]).2 nn agg (.eptr A.bufs.length 2 1 0) = apart [.d (.int .i64 y)] 0 nn agg := fun nn agg => aload_growG (rows := [x, y].map iRow) (i := 1) rfl
       simp only [List.getD_cons_zero, List.getD_cons_succ]
       cases h8 : decide (x = y) with
       | false => simp (maxSteps := 1000000) only [go_sem, acondK_bool, g6, g7, k_drawn_q, i0, i1, l0, l1, h8, comparedOf, e6]
       | true =>
         cases h9 : cmpS op x with
         | false => simp (maxSteps := 1000000) only [go_sem, acondK_bool, g6, g7, k_drawn_q, i0, i1, l0, l1, h8, h9, comparedOf, e6]
         | true => simp (maxSteps := 1000000) only [go_sem, acondK_bool, g6, g7, k_drawn_q, i0, i1, l0, l1, h8, h9, comparedOf, e6]
     | false =>
       simp only [Bool.false_eq_true, if_false]
       cases g6 : decide (10 ≤ op) with
       | false =>
         simp (maxSteps := 1000000) only [go_sem, acondK_bool, g6, sigOf, alen_grow]
         refine loop_any (fun pre => [(90, .v (.d (.int .i64 (ts.length : Nat)))), (14, .v (.d (.int .i64 (sigR op)))), (89, .v (grI A ts).1), (13, .v (.d (.int .i64 (sigW op)))), (91, .v (.d (.int .i64 (pre.length : Nat))))])
          (fun _ => (grI A ts).2) (fun _ suf => some (.tuple [.d (.int .i64 (if suf.all (fun t => decide (t = sigW op)) = true then (sigR op, 0) else (0, 10) : Int × Int).1), .d (.int .i64 (if suf.all (fun t => decide (t = sigW op)) = true then (sigR op, 0) else (0, 10) : Int × Int).2)], A)) ts (by simp) rfl rfl ?_
         intro pre suf hl2 ih3
         have hb2 : pre.length < 9223372036854775807 := by rw [hl2] at e8; simp at e8; omega
         cases suf with
         | nil => rw [List.append_nil] at hl2; subst hl2; simp (maxSteps := 1000000) only [go_sem, acondK_bool, e6, List.all_nil]
         | cons y suf =>
           have f2 := ih3 y suf rfl
           rw [List.length_append, List.length_cons, List.length_nil] at f2
           have f3 : (ts.map iRow)[pre.length]? = some [.int .i64 y] := grI_get (by rw [hl2]; simp)
           have f4 : decide ((pre.length : Int) < (ts.length : Int)) = true := by rw [hl2]; simp; omega
           have f5 : aindex 1 (grI A ts).2 (pre.length : Nat) (grI A ts).1 = some (.eptr A.bufs.length ts.length pre.length 0) := (aindex_growG (by rw [hl2]; simp)).trans (by rw [List.length_map])
           have f6 : ∀ nn agg, aload (grI A ts).2 nn agg (.eptr A.bufs.length ts.length pre.length 0) = apart [.d (.int .i64 y)] 0 nn agg := fun nn agg => by
            have := aload_growG (A := A) (e := 3) (sz := 1) (n := nn) (agg := agg) f3
            rw [List.length_map] at this
            exact this
           cases h9 : decide (y = sigW op) with
           | false => simp (maxSteps := 1000000) only [go_sem, acondK_bool, f4, f5, f6, h9, e6, List.all_cons]
           | true => simp (maxSteps := 1000000) only [go_sem, acondK_bool, f4, f5, f6, h9, f2, wrap_nat hb2, List.all_cons]
       | true =>
         have g7 : decide (op ≤ 15) = false := by rw [g6] at h6; simpa using h6
         simp (maxSteps := 1000000) only [go_sem, acondK_bool, g6, g7, sigOf, alen_grow]
         refine loop_any (fun pre => [(90, .v (.d (.int .i64 (ts.length : Nat)))), (14, .v (.d (.int .i64 (sigR op)))), (89, .v (grI A ts).1), (13, .v (.d (.int .i64 (sigW op)))), (91, .v (.d (.int .i64 (pre.length : Nat))))])
          (fun _ => (grI A ts).2) (fun _ suf => some (.tuple [.d (.int .i64 (if suf.all (fun t => decide (t = sigW op)) = true then (sigR op, 0) else (0, 10) : Int × Int).1), .d (.int .i64 (if suf.all (fun t => decide (t = sigW op)) = true then (sigR op, 0) else (0, 10) : Int × Int).2)], A)) ts (by simp) rfl rfl ?_
         intro pre suf hl2 ih3
         have hb2 : pre.length < 9223372036854775807 := by rw [hl2] at e8; simp at e8; omega
         cases suf with
         | nil => rw [List.append_nil] at hl2; subst hl2; simp (maxSteps := 1000000) only [go_sem, acondK_bool, e6, List.all_nil]
         | cons y suf =>
           have f2 := ih3 y suf rfl
           rw [List.length_append, List.length_cons, List.length_nil] at f2
           have f3 : (ts.map iRow)[pre.length]? = some [.int .i64 y] := grI_get (by rw [hl2]; simp)
           have f4 : decide ((pre.length : Int) < (ts.length : Int)) = true := by rw [hl2]; simp; omega
           have f5 : aindex 1 (grI A ts).2 (pre.length : Nat) (grI A ts).1 = some (.eptr A.bufs.length ts.length pre.length 0) := (aindex_growG (by rw [hl2]; simp)).trans (by rw [List.length_map])
           have f6 : ∀ nn agg, aload (grI A ts).2 nn agg (.eptr A.bufs.length ts.length pre.length 0) = apart [.d (.int .i64 y)] 0 nn agg := fun nn agg => by
            have := aload_growG (A := A) (e := 3) (sz := 1) (n := nn) (agg := agg) f3
            rw [List.length_map] at this
            exact this
           cases h9 : decide (y = sigW op) with
           | false => simp (maxSteps := 1000000) only [go_sem, acondK_bool, f4, f5, f6, h9, e6, List.all_cons]
           | true => simp (maxSteps := 1000000) only [go_sem, acondK_bool, f4, f5, f6, h9, f2, wrap_nat hb2, List.all_cons]
def getP (l : List Pm) (k : Bytes) : Option Int := match l with
 | [] => none
 | x :: l => if (x.name == k) = true then some x.type else getP l k
def binS (op a b : Int) : Int := if (!decide (a = b)) = true then 0 else if (decide (4 ≤ op) && decide (op ≤ 8) && decide (a = 1)) = true then 1
 else if (decide (op = 10) || decide (op = 11) || (decide (12 ≤ op) && decide (op ≤ 15) && !decide (a = 3)) || ((decide (op = 16) || decide (op = 17)) && decide (a = 3))) = true then 3
 else if (decide (op = 19) && decide (a = 2)) = true then 2 else 0
theorem fin2 {op a b : Int} (h : ar op = 2) : finS op [a, b] = if decide (binS op a b = 0) = true then (0, 10) else (binS op a b, 0) := by
 have ho : op = 4 ∨ op = 5 ∨ op = 6 ∨ op = 7 ∨ op = 8 ∨ op = 10 ∨ op = 11 ∨ op = 12 ∨ op = 13 ∨ op = 14 ∨ op = 15 ∨ op = 16 ∨ op = 17 ∨ op = 19 := by
  unfold ar at h
  split at h
  ·omega
  ·split at h
   ·omega
   ·split at h <;> omega
 by_cases hab : a = b
 ·subst hab
  rcases ho with rfl | rfl | rfl | rfl | rfl | rfl | rfl | rfl | rfl | rfl | rfl | rfl | rfl | rfl <;> simp [finS, sigW, sigR, sig1, binS, cmpS] <;> (first | done | (by_cases h1 : a = 1 <;> simp [h1]; done) | (by_cases h1 : a = 3 <;> simp [h1]; done) | (by_cases h1 : a = 2 <;> simp [h1]; done))
 ·have hb0 : binS op a b = 0 := by simp [binS, hab]
  rw [hb0]
  rcases ho with rfl | rfl | rfl | rfl | rfl | rfl | rfl | rfl | rfl | rfl | rfl | rfl | rfl | rfl <;> simp [finS, sigW, sigR, sig1, hab] <;> (intro h1; omega)
structure CkS where
 vis : NM
 loops : List Bytes
 all : NM
def ckH (B R : List AObj) (b : List ABuf) (s : CkS) : AHeap :=
 ⟨B ++ (.map (mi s.vis) :: .map (mb s.loops) :: .map (mi s.all) :: .cells [.mapr B.length, .mapr (B.length + 1), .mapr (B.length + 2)] :: R), b⟩
section
variable {B R : List AObj} {b : List ABuf} {s s' : CkS}
theorem ck_obj : (ckH B R b s).objs[B.length + 3]? = some (.cells [.mapr B.length, .mapr (B.length + 1), .mapr (B.length + 2)]) := by simp [ckH]
theorem ck_vis : (ckH B R b s).objs[B.length]? = some (.map (mi s.vis)) := by simp [ckH]
theorem ck_loops : (ckH B R b s).objs[B.length + 1]? = some (.map (mb s.loops)) := by simp [ckH]
theorem ck_all : (ckH B R b s).objs[B.length + 2]? = some (.map (mi s.all)) := by simp [ckH]
theorem ck_setv {m : NM} : (⟨(ckH B R b s).objs.set B.length (.map (mi m)), (ckH B R b s).bufs⟩ : AHeap) = ckH B R b { s with vis := m } := by simp [ckH]
theorem ck_setl {m : List Bytes} : (⟨(ckH B R b s).objs.set (B.length + 1) (.map (mb m)), (ckH B R b s).bufs⟩ : AHeap) = ckH B R b { s with loops := m } := by simp [ckH]
theorem ck_seta {m : NM} : (⟨(ckH B R b s).objs.set (B.length + 2) (.map (mi m)), (ckH B R b s).bufs⟩ : AHeap) = ckH B R b { s with all := m } := by simp [ckH]
theorem ck_fin {f : FuncId} (ho : C.own f = false) {v : AV} (h : v.still3 = true) : afinR C f (ckH B R b s) (ckH B R b s') (some v) = some (v.clean3, ckH B R b s') :=
 afinR_len ho h (by simp [ckH]) rfl
end
def opsS (lk : Bytes → Option Int) (x : Stm) : Int × Int × Int :=
 if decide (x.op = 8) = true then (0, 0, 0) else
 if (decide ((ofE lk x.a).2 = 0) && (decide (x.op = 3) || decide (x.op = 6))) = true then ((ofE lk x.a).1, (ofE lk x.b).1, (ofE lk x.b).2) else ((ofE lk x.a).1, 0, (ofE lk x.a).2)
def dclS (s : CkS) (k : Bytes) (t : Int) : CkS := { s with vis := s.vis.put k t, all := s.all.put k t }
def dels (m : NM) : List Stm → NM
 | [] => m
 | x :: l => dels (if decide (x.op = 1) = true then m.del x.name else m) l
def endB (r : Int × CkS) (l : List Stm) : Int × CkS := if decide (r.1 = 0) = true then (0, { r.2 with vis := dels r.2.vis l }) else r
mutual
def stP (s : CkS) : Stm → Int × CkS
 | .mk op name max a b body els =>
   let r := opsS s.vis.get (.mk op name max a b body els)
   if decide (r.2.2 = 0) = true then
    if decide (op = 1) = true then (0, dclS s name r.1)
    else if decide (op = 2) = true then (match s.vis.get name with
     | none => (11, s)
     | some t => if SS.has s.loops name = true then (7, s) else if decide (t = r.1) = true then (0, s) else (10, s))
    else if decide (op = 3) = true then (if (!decide (r.1 = 2) || decide (r.2.1 = 3)) = true then (10, s) else (0, s))
    else if decide (op = 4) = true then (if decide (r.1 = 2) = true then (0, s) else (10, s))
    else if decide (op = 7) = true then (if decide (r.1 = 3) = true then (10, s) else (0, s))
    else if decide (op = 5) = true then (if decide (r.1 = 3) = true then
      (if decide ((endB (blP s body) body).1 = 0) = true then endB (blP (endB (blP s body) body).2 els) els else endB (blP s body) body) else (10, s))
    else if decide (op = 6) = true then (if (!decide (r.1 = 1) || !decide (r.2.1 = 1)) = true then (10, s) else
      ((endB (blP { dclS s name 1 with loops := SS.put s.loops name } body) body).1,
        { (endB (blP { dclS s name 1 with loops := SS.put s.loops name } body) body).2 with vis := (endB (blP { dclS s name 1 with loops := SS.put s.loops name } body) body).2.vis.del name }))
    else (0, s)
   else (r.2.2, s)
def blP (s : CkS) : List Stm → Int × CkS
 | [] => (0, s)
 | x :: l => if decide ((stP s x).1 = 0) = true then blP (stP s x).2 l else stP s x
end
theorem declare (B R : List AObj) (b : List ABuf) (s : CkS) (k : Bytes) (t : Int) : acl C 72 [.ptr (B.length + 3) 0, .d (.str k), .d (.int .i64 t)] (ckH B R b s) = some (.tuple [], ckH B R b (dclS s k t)) := by
 have f := fun s s' => ck_fin (B := B) (R := R) (b := b) (s := s) (s' := s') (f := 72) (v := .tuple []) rfl rfl
 rw [k_call (c := C) (f := 72) rfl Tryz.func72 rfl (ok 72 (by kernel_rfl)) rfl Tryz.ntmps72 Tryz.results72 (by simp)]
 simp (maxSteps := 1000000) only [go_sem, acondK_bool, ck_obj, ck_vis, ck_all, aupd_mi, ck_setv, ck_seta, f, dclS]
 try rfl
theorem operandsP {d : Int} (B R : List AObj) (b : List ABuf) (s : CkS) (x : Stm) (hx : x.Ok) (hs : StmOk x d) : acl C 157 [.ptr (B.length + 3) 0, Stm.av x] (ckH B R b s) =
  some (.tuple [.d (.int .i64 (opsS s.vis.get x).1), .d (.int .i64 (opsS s.vis.get x).2.1), .d (.int .i64 (opsS s.vis.get x).2.2)], ckH B R b s) := by
 have xa := Stm.Ok.a hx
 have xb := Stm.Ok.b hx
 rw [k_call (c := C) (f := 157) rfl Tryz.func157 rfl (ok 157 (by kernel_rfl)) rfl Tryz.ntmps157 Tryz.results157 (by simp)]
 unfold opsS
 by_cases h8 : x.op = 8
 ·have d8 : decide (x.op = 8) = true := by simp [h8]
  simp (maxSteps := 1000000) only [go_sem, acondK_bool, d8]
 ·have d8 : decide (x.op = 8) = false := by simp [h8]
  have ua : uA x.op = true := by have := hs.op; simp [uA]; omega
  have e1 := typeOfE B.length s.vis x.a xa 1 (hs.a ua) (ckH B R b s) ck_vis
  cases h1 : decide ((ofE s.vis.get x.a).2 = 0) with
  | false => simp (maxSteps := 1000000) only [go_sem, acondK_bool, d8, ck_obj, k_drawn_q, e1, h1]
  | true =>
    by_cases hb : uB x.op = true
    ·have e2 := typeOfE B.length s.vis x.b xb 1 (hs.b hb) (ckH B R b s) ck_vis
     have hb' : (decide (x.op = 3) || decide (x.op = 6)) = true := hb
     cases h3 : decide (x.op = 3) with
     | true => simp (maxSteps := 1000000) only [go_sem, acondK_bool, d8, ck_obj, k_drawn_q, e1, h1, h3, e2]
     | false =>
       have h6 : decide (x.op = 6) = true := by rw [h3] at hb'; simpa using hb'
       simp (maxSteps := 1000000) only [go_sem, acondK_bool, d8, ck_obj, k_drawn_q, e1, h1, h3, h6, e2]
    ·have hb' : (decide (x.op = 3) || decide (x.op = 6)) = false := by simpa [uB] using hb
     rw [Bool.or_eq_false_iff] at hb'
     simp (maxSteps := 1000000) only [go_sem, acondK_bool, d8, ck_obj, k_drawn_q, e1, h1, hb'.1, hb'.2]
end Go.Proofs.YtpbdjgdmhfibmaaGreatDoor
set_option linter.all false
namespace Go.Proofs.YtpbdjgdmhfibmaaGreatDoor
open Go.Abs
attribute [local congr] ite_congr
set_option maxRecDepth 10000
def stAfter (s : CkS) : List Stm → CkS
 | [] => s
 | x :: l => stAfter (stP s x).2 l
theorem stAfter_snoc : ∀ (l : List Stm) (s : CkS) (x : Stm), stAfter s (l ++ [x]) = (stP (stAfter s l) x).2
 | [], s, x => rfl
 | y :: l, s, x => by simp only [List.cons_append, stAfter]; exact stAfter_snoc l _ x
theorem dels_snoc : ∀ (l : List Stm) (m : NM) (x : Stm), dels m (l ++ [x]) = if decide (x.op = 1) = true then (dels m l).del x.name else dels m l
 | [], m, x => rfl
 | y :: l, m, x => by simp only [List.cons_append, dels]; exact dels_snoc l _ x
theorem blP_nil (s : CkS) : blP s [] = (0, s) := by rw [blP]
theorem blP_cons (s : CkS) (x : Stm) (l : List Stm) : blP s (x :: l) = if decide ((stP s x).1 = 0) = true then blP (stP s x).2 l else stP s x := by rw [blP]
def StmGood (x : Stm) : Prop := ∀ (B R : List AObj) (b : List ABuf) (s : CkS), acl C 114 [.ptr (B.length + 3) 0, Stm.av x] (ckH B R b s) = some (.d (.int .i64 (stP s x).1), ckH B R b (stP s x).2)
set_option maxHeartbeats 1000000 in
theorem blockP (l : List Stm) (hl : l.length ≤ 4194303) (hg : ∀ x ∈ l, StmGood x) (B R : List AObj) (b : List ABuf) (s : CkS) :
  acl C 73 [.ptr (B.length + 3) 0, .d (.slice (l.map Stm.row))] (ckH B R b s) = some (.d (.int .i64 (endB (blP s l) l).1), ckH B R b (endB (blP s l) l).2) := by
 have f := fun s s' n => ck_fin (B := B) (R := R) (b := b) (s := s) (s' := s') (f := 73) (v := .d (.int .i64 n)) rfl rfl
 rw [k_call (c := C) (f := 73) rfl Tryz.func73 rfl (ok 73 (by kernel_rfl)) rfl Tryz.ntmps73 Tryz.results73 (by simp)]
 simp (maxSteps := 1000000) only [go_sem, acondK_bool]
 refine loop_any (fun pre => [(11, .v (.d (.int .i64 (l.length : Nat)))), (1, .v (.d (.slice (l.map Stm.row)))), (10, .v (.d (.slice (l.map Stm.row)))), (0, .v (.ptr (B.length + 3) 0)), (12, .v (.d (.int .i64 (pre.length : Nat))))])
  (fun pre => ckH B R b (stAfter s pre)) (fun pre suf => some (.d (.int .i64 (endB (blP (stAfter s pre) suf) l).1), ckH B R b (endB (blP (stAfter s pre) suf) l).2)) l rfl rfl rfl ?_
 intro pre suf h ih
 have hb : pre.length < 9223372036854775807 := by rw [h] at hl; simp at hl; omega
 cases suf with
 | cons x suf =>
   have e1 := hg x (by rw [h]; simp) B R b (stAfter s pre)
   have e2 := ih x suf rfl
   rw [List.length_append, List.length_cons, List.length_nil, stAfter_snoc] at e2
   have e3 : (l.map Stm.row)[pre.length]? = some (Stm.row x) := by rw [h]; exact map_mid
   have e4 : decide ((pre.length : Int) < (l.length : Int)) = true := by rw [h]; simp; omega
   rw [Stm.row_eq] at e3
   rw [blP_cons]
   generalize stP (stAfter s pre) x = r at *
   cases h5 : decide (r.1 = 0) with
   | true => simp (maxSteps := 1000000) only [go_sem, acondK_bool, e3, e4, e1, h5, e2, wrap_nat hb]
   | false => simp (maxSteps := 1000000) only [go_sem, acondK_bool, e3, e4, e1, h5, endB, f]
 | nil =>
   rw [List.append_nil] at h
   subst h
   rw [blP_nil]
   simp only [endB, decide_true, if_true]
   generalize stAfter s l = s1 at *
   simp (maxSteps := 1000000) only [go_sem, acondK_bool]
   refine loop_any (fun pre => [(25, .v (.d (.int .i64 (pre.length : Nat)))), (0, .v (.ptr (B.length + 3) 0)), (23, .v (.d (.slice (l.map Stm.row)))), (24, .v (.d (.int .i64 (l.length : Nat))))])
    (fun pre => ckH B R b { s1 with vis := dels s1.vis pre }) (fun _ _ => some (.d (.int .i64 0), ckH B R b { s1 with vis := dels s1.vis l })) l rfl rfl rfl ?_
   intro pre suf h ih2
   have hb2 : pre.length < 9223372036854775807 := by rw [h] at hl; simp at hl; omega
   cases suf with
   | nil =>
     rw [List.append_nil] at h
     subst h
     simp (maxSteps := 1000000) only [go_sem, acondK_bool, f]
   | cons x suf =>
     have e2 := ih2 x suf rfl
     rw [List.length_append, List.length_cons, List.length_nil, dels_snoc] at e2
     have e3 : (l.map Stm.row)[pre.length]? = some (Stm.row x) := by rw [h]; exact map_mid
     have e4 : decide ((pre.length : Int) < (l.length : Int)) = true := by rw [h]; simp; omega
     rw [Stm.row_eq] at e3
     cases h5 : decide (x.op = 1) with
     | false =>
       rw [h5, if_neg (by decide)] at e2
       simp (maxSteps := 1000000) only [go_sem, acondK_bool, e3, e4, h5, e2, wrap_nat hb2]
     | true =>
       rw [h5, if_pos rfl] at e2
       have s1 : (⟨(ckH B R b { s1 with vis := dels s1.vis pre }).objs.set B.length (.map (mi ((dels s1.vis pre).del x.name))), (ckH B R b { s1 with vis := dels s1.vis pre }).bufs⟩ : AHeap) = ckH B R b { s1 with vis := (dels s1.vis pre).del x.name } := ck_setv
       simp (maxSteps := 1000000) only [go_sem, acondK_bool, e3, e4, h5, k_drawn_t, ck_obj, ck_vis, adel_mi, s1]
       refine Eq.trans (ctE_ok (by repeat (first | exact MLe.nil | apply MLe.qq | apply MLe.q | apply MLe.o | apply MLe.b | apply MLe.l)) (by kernel_rfl)) ?_
       simp (maxSteps := 1000000) only [go_sem, acondK_bool, e2, wrap_nat hb2]
theorem stmFit2 {x : Stm} (h : x.Ok) : x.body.length ≤ 4194303 ∧ x.els.length ≤ 4194303 := by
 cases h; exact ⟨by assumption, by assumption⟩
theorem visSs_mem {l : List Stm} {x : Stm} (hx : x ∈ l) (d : Int) : ∀ v ∈ visS x d, v ∈ visSs l d := by
 intro v hv
 induction l with
 | nil => cases hx
 | cons y l ih =>
   simp only [visSs, List.mem_append]
   rcases List.mem_cons.1 hx with rfl | hx
   ·exact .inl hv
   ·exact .inr (ih hx)
theorem vis_self (x : Stm) (d : Int) : Vis.s x d ∈ visS x d := by
 cases x
 simp [visS]
theorem vis_body {op : Int} {name : Bytes} {max : Int} {a b : E} {body els : List Stm} {d : Int} : ∀ v ∈ visSs body (IntKind.i64.wrap (d + 1)), v ∈ visS (.mk op name max a b body els) d := by
 intro v hv
 simp only [visS, List.mem_cons, List.mem_append]
 exact .inr (.inr (.inr (.inl hv)))
theorem vis_els {op : Int} {name : Bytes} {max : Int} {a b : E} {body els : List Stm} {d : Int} : ∀ v ∈ visSs els (IntKind.i64.wrap (d + 1)), v ∈ visS (.mk op name max a b body els) d := by
 intro v hv
 simp only [visS, List.mem_cons, List.mem_append]
 exact .inr (.inr (.inr (.inr hv)))
set_option maxHeartbeats 4000000 in
theorem statementP : ∀ x : Stm, x.Ok → ∀ d, (∀ y k, Vis.s y k ∈ visS x d → StmOk y k) → StmGood x := by
 intro x
 induction x using Stm.ind with
 | h op name max a b body els ihb ihe =>
   intro hok d hv B R bb s
   have hs := hv _ d (vis_self _ d)
   obtain ⟨f1, f2⟩ := stmFit2 hok
   have gb : ∀ y ∈ body, StmGood y := fun y hy => ihb y hy (Stm.Ok.bodyOk hok y hy) (IntKind.i64.wrap (d + 1)) (fun z k hz => hv z k (vis_body _ (visSs_mem hy _ _ hz)))
   have ge : ∀ y ∈ els, StmGood y := fun y hy => ihe y hy (Stm.Ok.elsOk hok y hy) (IntKind.i64.wrap (d + 1)) (fun z k hz => hv z k (vis_els _ (visSs_mem hy _ _ hz)))
   have kb := fun s => blockP body f1 gb B R bb s
   have ke := fun s => blockP els f2 ge B R bb s
   have o1 := operandsP B R bb s _ hok hs
   have dc := fun k t => declare B R bb s k t
   have fin := fun s s' n => ck_fin (B := B) (R := R) (b := bb) (s := s) (s' := s') (f := 114) (v := .d (.int .i64 n)) rfl rfl
   have hop := hs.op
   simp only [Stm.op] at hop
   rw [k_call (c := C) (f := 114) rfl Tryz.func114 rfl (ok 114 (by kernel_rfl)) rfl Tryz.ntmps114 Tryz.results114 (by simp)]
   rw [stP]
   generalize opsS s.vis.get (.mk op name max a b body els) = r at *
   obtain ⟨r1, r2, r3⟩ := r
   simp only at o1 ⊢
   cases h0 : decide (r3 = 0) with
   | false => simp (maxSteps := 1000000) only [go_sem, acondK_bool, Stm.op, Stm.name, o1, h0, fin]
   | true =>
   have ho : op = 1 ∨ op = 2 ∨ op = 3 ∨ op = 4 ∨ op = 5 ∨ op = 6 ∨ op = 7 ∨ op = 8 := by omega
   rcases ho with rfl | rfl | rfl | rfl | rfl | rfl | rfl | rfl
   ·simp (maxSteps := 1000000) only [go_sem, acondK_bool, Stm.op, Stm.name, o1, h0, dc, fin]
   ·have hf := afind_mi name s.vis
    have hl := afind_mb name s.loops
    cases hg : s.vis.get name with
    | none =>
      rw [hg, Option.map_none] at hf
      simp (maxSteps := 1000000) only [go_sem, acondK_bool, Stm.op, Stm.name, o1, h0, k_drawn_q, ck_obj, ck_vis, hf, fin, hg]
    | some t =>
      rw [hg, Option.map_some] at hf
      cases hh : SS.has s.loops name with
      | true =>
        rw [hh, if_pos rfl] at hl
        simp (maxSteps := 1000000) only [go_sem, acondK_bool, Stm.op, Stm.name, o1, h0, k_drawn_q, ck_obj, ck_vis, ck_loops, hf, hl, hh, fin, hg]
      | false =>
        rw [hh, if_neg (by decide)] at hl
        cases ht : decide (t = r1) with
        | true => simp (maxSteps := 1000000) only [go_sem, acondK_bool, Stm.op, Stm.name, o1, h0, k_drawn_q, ck_obj, ck_vis, ck_loops, hf, hl, hh, ht, fin, hg]
        | false => simp (maxSteps := 1000000) only [go_sem, acondK_bool, Stm.op, Stm.name, o1, h0, k_drawn_q, ck_obj, ck_vis, ck_loops, hf, hl, hh, ht, fin, hg]
   ·cases h1 : decide (r1 = 2) with
    | false => simp (maxSteps := 1000000) only [go_sem, acondK_bool, Stm.op, Stm.name, o1, h0, h1, fin]
    | true => cases h2 : decide (r2 = 3) <;> simp (maxSteps := 1000000) only [go_sem, acondK_bool, Stm.op, Stm.name, o1, h0, h1, h2, fin]
   ·cases h1 : decide (r1 = 2) <;> simp (maxSteps := 1000000) only [go_sem, acondK_bool, Stm.op, Stm.name, o1, h0, h1, fin]
   ·cases h1 : decide (r1 = 3) with
    | false => simp (maxSteps := 1000000) only [go_sem, acondK_bool, Stm.op, Stm.name, o1, h0, h1, fin]
    | true => cases h2 : decide ((endB (blP s body) body).1 = 0) <;> simp (maxSteps := 1000000) only [go_sem, acondK_bool, Stm.op, Stm.name, o1, h0, h1, kb, ke, h2, fin]
   ·cases h1 : decide (r1 = 1) with
    | false => simp (maxSteps := 1000000) only [go_sem, acondK_bool, Stm.op, Stm.name, o1, h0, h1, fin]
    | true =>
      cases h2 : decide (r2 = 1) with
      | false => simp (maxSteps := 1000000) only [go_sem, acondK_bool, Stm.op, Stm.name, o1, h0, h1, h2, fin]
      | true =>
        have q1 : (⟨(ckH B R bb (dclS s name 1)).objs.set (B.length + 1) (.map (mb (SS.put s.loops name))), (ckH B R bb (dclS s name 1)).bufs⟩ : AHeap) = ckH B R bb { dclS s name 1 with loops := SS.put s.loops name } := ck_setl
        have q2 : (ckH B R bb (dclS s name 1)).objs[B.length + 1]? = some (.map (mb s.loops)) := ck_loops
        simp (maxSteps := 1000000) only [go_sem, acondK_bool, Stm.op, Stm.name, o1, h0, h1, h2, dc, k_drawn_t, ck_obj, q2, aupd_mb, q1]
        refine Eq.trans (ctE_ok (by repeat (first | exact MLe.nil | apply MLe.qq | apply MLe.q | apply MLe.o | apply MLe.b | apply MLe.l)) (by kernel_rfl)) ?_
        have k1 := kb { dclS s name 1 with loops := SS.put s.loops name }
        generalize endB (blP { dclS s name 1 with loops := SS.put s.loops name } body) body = e at *
        simp (maxSteps := 1000000) only [go_sem, acondK_bool, Stm.op, Stm.name, k1]
        simp (maxSteps := 1000000) only [go_sem, acondK_bool, Stm.op, Stm.name, k_drawn_t, ck_obj, ck_vis, adel_mi, ck_setv]
        refine Eq.trans (ctE_ok (by repeat (first | exact MLe.nil | apply MLe.qq | apply MLe.q | apply MLe.o | apply MLe.b | apply MLe.l)) (by kernel_rfl)) ?_
        simp (maxSteps := 1000000) only [go_sem, acondK_bool, Stm.op, Stm.name, fin]
   ·cases h1 : decide (r1 = 3) <;> simp (maxSteps := 1000000) only [go_sem, acondK_bool, Stm.op, Stm.name, o1, h0, h1, fin]
   ·simp (maxSteps := 1000000) only [go_sem, acondK_bool, Stm.op, Stm.name, o1, h0, fin]
def dclL (s : CkS) : List Pm → CkS
 | [] => s
 | x :: l => dclL (dclS s x.name x.type) l
theorem dclL_snoc : ∀ (l : List Pm) (s : CkS) (x : Pm), dclL s (l ++ [x]) = dclS (dclL s l) x.name x.type
 | [], s, x => rfl
 | y :: l, s, x => by simp only [List.cons_append, dclL]; exact dclL_snoc l _ x
def metL (m : List Bytes) : List Bytes → List Bytes
 | [] => m
 | x :: l => metL (SS.put m x) l
theorem metL_snoc : ∀ (l m : List Bytes) (x : Bytes), metL m (l ++ [x]) = SS.put (metL m l) x
 | [], m, x => rfl
 | y :: l, m, x => by simp only [List.cons_append, metL]; exact metL_snoc l _ x
def dupF (m : List Bytes) : List Bytes → Bool
 | [] => false
 | x :: l => SS.has m x || dupF (SS.put m x) l
def prmBool (l : List Pm) : Bool := l.any fun x => decide (x.type = 3)
def preErr (p : Pr) : Int := if decide (valS p = 0) = true then (if prmBool p.params = true then 10 else if dupF [] (namesS p) = true then 8 else 0) else valS p
def ck0 (p : Pr) : CkS := dclL ⟨[], [], []⟩ p.params
def ckB (p : Pr) : Int × CkS := endB (blP (ck0 p) p.body) p.body
def chkS (p : Pr) : Int := if decide (preErr p = 0) = true then (ckB p).1 else preErr p
theorem ck_met {B : List AObj} {b : List ABuf} {s : CkS} {m : List Bytes} : (ckH B [.map (mb m)] b s).objs[B.length + 4]? = some (.map (mb m)) := by simp [ckH]
theorem ck_setm {B : List AObj} {b : List ABuf} {s : CkS} {m m' : List Bytes} : (⟨(ckH B [.map (mb m)] b s).objs.set (B.length + 4) (.map (mb m')), (ckH B [.map (mb m)] b s).bufs⟩ : AHeap) = ckH B [.map (mb m')] b s := by simp [ckH]
theorem ck_new {B : List AObj} {b : List ABuf} {s : CkS} : (⟨(ckH B [] b s).objs ++ [.map []], (ckH B [] b s).bufs⟩ : AHeap) = ckH B [.map (mb [])] b s := by simp [ckH, mb]
theorem ck_len {B : List AObj} {b : List ABuf} {s : CkS} : (ckH B [] b s).objs.length = B.length + 4 := by simp [ckH]
theorem afin_early {f : FuncId} (ho : C.own f = false) {A : AHeap} {R : List AObj} {s : CkS} {v : AV} (h : v.still3 = true) : afinR C f A (ckH A.objs R A.bufs s) (some v) = some (v.clean3, A) := afinR_obj ho h
theorem afin_map {f : FuncId} (ho : C.own f = false) {A : AHeap} {R : List AObj} {s : CkS} {i : Nat} {e : Int} :
  afinR C f A (ckH A.objs R A.bufs s) (some (.tuple [.mapr i, .d (.int .i64 e)])) = some (.tuple [.mapr i, .d (.int .i64 e)], ckH A.objs R A.bufs s) := by
 simp only [afinR, Option.map_some, afinish, ho, Bool.false_eq_true, if_false, acleanR, acleanVs, acleanV, aclean]
 unfold acut
 simp [ckH, AV.noptr, AV.noptr2, AV.noptr1]
theorem bodyGood {p : Pr} (hp : p.Ok) (V : Vld p) : ∀ x ∈ p.body, StmGood x := fun x hx => statementP x (hp.body x hx) 1 fun y k hy => stmtS_zero (V.stm y k (visSs_mem hx _ _ hy))
set_option maxHeartbeats 2000000 in
theorem check_all (p : Pr) (hp : p.Ok) (h40 : p.params.length ≤ 40) (A : AHeap) :
  (preErr p ≠ 0 → acl C 34 [Pr.av p] A = some (.tuple [.nilM, .d (.int .i64 (preErr p))], A)) ∧
  (preErr p = 0 → acl C 34 [Pr.av p] A = some (.tuple [.mapr (A.objs.length + 2), .d (.int .i64 (ckB p).1)], ckH A.objs [.map (mb (metL [] (namesS p)))] A.bufs (ckB p).2)) := by
 have v1 := validate p hp
 have n1 := names p hp (by omega)
 have fe : ∀ R s n, afinR C 34 A (ckH A.objs R A.bufs s) (some (.tuple [.nilM, .d (.int .i64 n)])) = some (.tuple [.nilM, .d (.int .i64 n)], A) :=
  fun R s n => afin_early (f := 34) (A := A) (R := R) (s := s) (v := .tuple [.nilM, .d (.int .i64 n)]) rfl rfl
 have f0 : ∀ n, afinR C 34 A A (some (.tuple [.nilM, .d (.int .i64 n)])) = some (.tuple [.nilM, .d (.int .i64 n)], A) :=
  fun n => afinR_still (c := C) (f := 34) (v := .tuple [.nilM, .d (.int .i64 n)]) rfl rfl
 have key : acl C 34 [Pr.av p] A = if decide (preErr p = 0) = true then some (.tuple [.mapr (A.objs.length + 2), .d (.int .i64 (ckB p).1)], ckH A.objs [.map (mb (metL [] (namesS p)))] A.bufs (ckB p).2) else some (.tuple [.nilM, .d (.int .i64 (preErr p))], A) := by
  rw [k_call (c := C) (f := 34) rfl Tryz.func34 rfl (ok 34 (by kernel_rfl)) rfl Tryz.ntmps34 Tryz.results34 (by simp)]
  cases h1 : decide (valS p = 0) with
  | false =>
    have h2 : preErr p = valS p := by unfold preErr; rw [if_neg (by rw [h1]; decide)]
    have h3 : decide (preErr p = 0) = false := by rw [h2]; exact h1
    rw [h3, if_neg (by decide), h2]
    simp (maxSteps := 1000000) only [go_sem, acondK_bool, v1, h1, f0]
  | true =>
  have V := (valS_zero p).1 (by simpa using h1)
  have h2 : preErr p = if prmBool p.params = true then 10 else if dupF [] (namesS p) = true then 8 else 0 := by unfold preErr; rw [if_pos h1]
  rw [h2]
  simp (maxSteps := 1000000) only [go_sem, acondK_bool, v1, h1]
  refine loop_any (fun pre => [(24, .v (.d (.int .i64 (p.params.length : Nat)))), (1, .box [.d (.str p.name), .d (.slice (p.params.map Pm.row)), .d (.slice (p.body.map Stm.row))]), (23, .v (.d (.slice (p.params.map Pm.row)))), (5, .v (.ptr (A.objs.length + 3) 0)), (25, .v (.d (.int .i64 (pre.length : Nat))))])
   (fun pre => ckH A.objs [] A.bufs (dclL ⟨[], [], []⟩ pre)) (fun _ suf => if decide ((if prmBool suf = true then (10 : Int) else if dupF [] (namesS p) = true then 8 else 0) = 0) = true then some (.tuple [.mapr (A.objs.length + 2), .d (.int .i64 (ckB p).1)], ckH A.objs [.map (mb (metL [] (namesS p)))] A.bufs (ckB p).2) else some (.tuple [.nilM, .d (.int .i64 (if prmBool suf = true then (10 : Int) else if dupF [] (namesS p) = true then 8 else 0))], A)) p.params rfl rfl rfl ?_
  intro pre suf hl ih
  have hb : pre.length < 9223372036854775807 := by rw [hl] at h40; simp at h40; omega
  cases suf with
  | cons x suf =>
    have dc := fun s k t => declare A.objs [] A.bufs s k t
    have e2 := ih x suf rfl
    rw [List.length_append, List.length_cons, List.length_nil, dclL_snoc] at e2
    have e3 : (p.params.map Pm.row)[pre.length]? = some [.str x.name, .int .i64 x.type] := by rw [hl]; exact map_mid
    have e4 : decide ((pre.length : Int) < (p.params.length : Int)) = true := by rw [hl]; simp; omega
    have e5 : prmBool (x :: suf) = (decide (x.type = 3) || prmBool suf) := rfl
    rw [e5]
    cases h5 : decide (x.type = 3) with
    | true => simp (maxSteps := 1000000) only [go_sem, acondK_bool, e3, e4, h5, fe]
    | false => simp (maxSteps := 1000000) only [go_sem, acondK_bool, e3, e4, h5, dc, e2, wrap_nat hb]
  | nil =>
  rw [List.append_nil] at hl
  subst hl
  have e5 : prmBool [] = false := rfl
  rw [e5]
  simp only [Bool.false_eq_true, if_false]
  simp (maxSteps := 1000000) only [go_sem, acondK_bool, ck_new, ck_len, n1]
  have hnl := namesS_len p h40
  refine loop_any (fun pre => [(42, .v (.d (.int .i64 ((namesS p).length : Nat)))), (5, .v (.ptr (A.objs.length + 3) 0)), (1, .box [.d (.str p.name), .d (.slice (p.params.map Pm.row)), .d (.slice (p.body.map Stm.row))]), (41, .v (.d (.slice ((namesS p).map sRow)))), (8, .v (.mapr (A.objs.length + 4))), (43, .v (.d (.int .i64 (pre.length : Nat))))])
   (fun pre => ckH A.objs [.map (mb (metL [] pre))] A.bufs (ck0 p)) (fun pre suf => if decide ((if dupF (metL [] pre) suf = true then (8 : Int) else 0) = 0) = true then some (.tuple [.mapr (A.objs.length + 2), .d (.int .i64 (ckB p).1)], ckH A.objs [.map (mb (metL [] (namesS p)))] A.bufs (ckB p).2) else some (.tuple [.nilM, .d (.int .i64 (if dupF (metL [] pre) suf = true then (8 : Int) else 0))], A)) (namesS p) rfl rfl rfl ?_
  intro pre suf hl ih2
  have hb2 : pre.length < 9223372036854775807 := by rw [hl] at hnl; simp at hnl; omega
  cases suf with
  | cons x suf =>
    have e2 := ih2 x suf rfl
    rw [List.length_append, List.length_cons, List.length_nil, metL_snoc] at e2
    have e3 : ((namesS p).map sRow)[pre.length]? = some [.str x] := by rw [hl]; exact map_mid
    have e4 : decide ((pre.length : Int) < ((namesS p).length : Int)) = true := by rw [hl]; simp; omega
    have e6 : dupF (metL [] pre) (x :: suf) = (SS.has (metL [] pre) x || dupF (SS.put (metL [] pre) x) suf) := rfl
    rw [e6]
    have hm := afind_mb x (metL [] pre)
    cases h5 : SS.has (metL [] pre) x with
    | true =>
      rw [h5, if_pos rfl] at hm
      simp (maxSteps := 1000000) only [go_sem, acondK_bool, e3, e4, ck_met, hm, h5, fe]
    | false =>
      rw [h5, if_neg (by decide)] at hm
      simp (maxSteps := 1000000) only [go_sem, acondK_bool, e3, e4, ck_met, hm, aupd_mb, ck_setm, h5, e2, wrap_nat hb2]
  | nil =>
  rw [List.append_nil] at hl
  have e7 : dupF (metL [] pre) [] = false := rfl
  rw [e7]
  rw [← hl]
  have bl := blockP p.body hp.bfit (bodyGood hp V) A.objs [.map (mb (metL [] (namesS p)))] A.bufs (ck0 p)
  have fm := fun s e => afin_map (f := 34) (A := A) (R := [.map (mb (metL [] (namesS p)))]) (s := s) (i := A.objs.length + 2) (e := e) rfl
  have bl' : acl C 73 [.ptr (A.objs.length + 3) 0, .d (.slice (p.body.map Stm.row))] (ckH A.objs [.map (mb (metL [] (namesS p)))] A.bufs (ck0 p)) = some (.d (.int .i64 (ckB p).1), ckH A.objs [.map (mb (metL [] (namesS p)))] A.bufs (ckB p).2) := bl
  simp (maxSteps := 1000000) only [go_sem, acondK_bool, bl', ck_obj, fm]
 constructor
 ·intro h
  rw [key, if_neg (by simpa using h)]
 ·intro h
  rw [key, if_pos (by simpa using h)]
theorem checkOf (p : Pr) (hp : p.Ok) (h40 : p.params.length ≤ 40) (A : AHeap) : acl C 17 [Pr.av p] A = some (.d (.int .i64 (chkS p)), A) := by
 obtain ⟨c1, c2⟩ := check_all p hp h40 A
 have fe := fun R s n => afin_early (f := 17) (A := A) (R := R) (s := s) (v := .d (.int .i64 n)) rfl rfl
 rw [k_call (c := C) (f := 17) rfl Tryz.func17 rfl (ok 17 (by kernel_rfl)) rfl Tryz.ntmps17 Tryz.results17 (by simp)]
 unfold chkS
 by_cases h : preErr p = 0
 ·rw [if_pos (by simpa using h)]
  simp (maxSteps := 1000000) only [go_sem, acondK_bool, c2 h, fe]
 ·rw [if_neg (by simpa using h)]
  simp (maxSteps := 1000000) only [go_sem, acondK_bool, c1 h]
end Go.Proofs.YtpbdjgdmhfibmaaGreatDoor
set_option linter.all false
namespace Go.Proofs.YtpbdjgdmhfibmaaGreatDoor
open Go.Abs
theorem prmF_zero3 : ∀ (l pre : List Pm), prmF pre l = 0 → (∀ x ∈ l, isName x.name = true ∧ 1 ≤ x.type ∧ x.type ≤ 3) ∧ (∀ x ∈ l, ∀ y ∈ pre, y.name ≠ x.name) ∧ (l.map Pm.name).Nodup
 | [], pre, _ => by simp
 | x :: l, pre, h => by
   unfold prmF at h
   split at h
   ·cases h
   rename_i h1
   split at h
   ·cases h
   rename_i h2
   split at h
   ·cases h
   rename_i h3
   obtain ⟨k1, k2, k3⟩ := prmF_zero3 l (pre ++ [x]) h
   simp at h1 h2 h3
   refine ⟨fun y hy => ?_, fun y hy z hz => ?_, ?_⟩
   ·rcases List.mem_cons.1 hy with rfl | hy
    ·exact ⟨h1, by omega, by omega⟩
    ·exact k1 y hy
   ·rcases List.mem_cons.1 hy with rfl | hy
    ·exact h3 z hz
    ·exact k2 y hy z (List.mem_append_left _ hz)
   ·rw [List.map_cons, List.nodup_cons]
    refine ⟨fun hm => ?_, k3⟩
    obtain ⟨y, hy, he⟩ := List.mem_map.1 hm
    exact k2 y hy x (List.mem_append_right _ (List.mem_cons_self ..)) he.symm
theorem prmS_zero3 (l : List Pm) : prmS l = 0 ↔ (prmS l = 0 ∧ l.length ≤ 6) ∧ (∀ x ∈ l, isName x.name = true ∧ 1 ≤ x.type ∧ x.type ≤ 3) ∧ (l.map Pm.name).Nodup := by
 constructor
 ·intro h
  have h0 := h
  unfold prmS at h
  split at h
  ·cases h
  ·rename_i h1
   obtain ⟨k1, _, k3⟩ := prmF_zero3 l [] h
   refine ⟨⟨h0, by simp at h1; omega⟩, k1, k3⟩
 ·exact fun h => h.1.1
end Go.Proofs.YtpbdjgdmhfibmaaGreatDoor
set_option linter.all false
namespace Go.Proofs.YtpbdjgdmhfibmaaGreatDoor
open Go.Abs
attribute [local congr] ite_congr
set_option maxRecDepth 10000
def acs (op : Int) : Bool := decide (op = 22) || decide (op = 23) || decide (op = 24)
theorem readsF (op : Int) (A : AHeap) : acl C 78 [.d (.int .i64 op)] A = some (.d (.bool (acs op)), A) := by
 rw [k_call (c := C) (f := 78) rfl Tryz.func78 rfl (ok 78 (by kernel_rfl)) rfl Tryz.ntmps78 Tryz.results78 (by simp)]
 simp (maxSteps := 1000000) only [go_sem, acondK_bool]
 rfl
structure HasAn (A : AHeap) (i m : Nat) (c : List Bytes) : Prop where
 o : ∃ a b d, A.objs[i]? = some (.cells [.d a, .d b, .d d, .mapr m])
 m : A.objs[m]? = some (.map (mb c))
mutual
def tntE (c : List Bytes) : E → Bool
 | .mk op n s args => acs op || ((decide (op = 3) && !SS.has c s) || tntEs c args)
def tntEs (c : List Bytes) : List E → Bool
 | [] => false
 | x :: l => tntE c x || tntEs c l
end
theorem tntEs_any (c : List Bytes) : ∀ l, tntEs c l = l.any (tntE c)
 | [] => rfl
 | x :: l => by simp [tntEs, tntEs_any c l]
theorem indexFuncEG (l : List E) (hl : l.length ≤ 1099511627776) (f : FuncId) (fs cs : List AV) (q : E → Bool) (A : AHeap) (hq : ∀ x ∈ l, acl C f (fs ++ E.av x :: cs) A = some (.d (.bool (q x)), A)) :
  acl C 116 [.d (.slice (l.map E.row)), .func (.func f) fs cs] A = some (.d (.int .i64 (idxF q l 0)), A) := by
 rw [k_call (c := C) (f := 116) rfl Tryz.func116 rfl (ok 116 (by kernel_rfl)) rfl Tryz.ntmps116 Tryz.results116 (by simp)]
 simp (maxSteps := 1000000) +contextual only [go_sem, acondK_bool]
 refine loop_list (fun i => [(7, .v (.d (.int .i64 (l.length : Nat)))), (1, .v (.func (.func f) fs cs)), (0, .v (.d (.slice (l.map E.row)))), (8, .v (.d (.int .i64 (i : Nat))))])
  (fun pre suf => some (.d (.int .i64 (idxF q suf pre.length)), A)) l rfl rfl ?_
 intro pre suf h ih
 have hb : pre.length < 9223372036854775807 := by rw [h] at hl; simp at hl; omega
 cases suf with
 | nil => rw [List.append_nil] at h; subst h; simp (maxSteps := 1000000) +contextual only [go_sem, acondK_bool, idxF]
 | cons x suf =>
   have e1 := hq x (by rw [h]; simp)
   have e2 := ih x suf rfl
   rw [List.length_append, List.length_cons, List.length_nil] at e2
   have e3 : (l.map E.row)[pre.length]? = some (E.row x) := by rw [h]; exact map_mid
   have e4 : decide ((pre.length : Int) < (l.length : Int)) = true := by rw [h]; simp; omega
   rw [E.row_eq] at e3
   simp (maxSteps := 1000000) +contextual only [go_sem, acondK_bool, e3, e4, e1, e2, wrap_nat hb, idxF]
theorem containsFuncEG (l : List E) (hl : l.length ≤ 1099511627776) (f : FuncId) (fs cs : List AV) (q : E → Bool) (A : AHeap) (hq : ∀ x ∈ l, acl C f (fs ++ E.av x :: cs) A = some (.d (.bool (q x)), A)) :
  acl C 79 [.d (.slice (l.map E.row)), .func (.func f) fs cs] A = some (.d (.bool (l.any q)), A) := by
 rw [k_call (c := C) (f := 79) rfl Tryz.func79 rfl (ok 79 (by kernel_rfl)) rfl Tryz.ntmps79 Tryz.results79 (by simp)]
 have e1 := indexFuncEG l hl f fs cs q A hq
 simp (maxSteps := 1000000) +contextual only [go_sem, acondK_bool, e1, idxF_nonneg]
theorem taintedP {i m : Nat} {c : List Bytes} : ∀ e, E.Ok e → ∀ (A : AHeap), HasAn A i m c → acl C 39 [.ptr i 0, E.av e] A = some (.d (.bool (tntE c e)), A) := by
 intro e
 induction e using E.ind with
 | h op n s args ih =>
   intro hok A hA
   obtain ⟨⟨x0, x1, x2, ho⟩, hm⟩ := hA
   have hA : HasAn A i m c := ⟨⟨x0, x1, x2, ho⟩, hm⟩
   have e1 := containsFuncEG args hok.len 39 [.ptr i 0] [] (tntE c) A (fun x hx => ih x hx (hok.arg x hx) A hA)
   rw [← tntEs_any] at e1
   have hf := afind_mb s c
   rw [k_call (c := C) (f := 39) rfl Tryz.func39 rfl (ok 39 (by kernel_rfl)) rfl Tryz.ntmps39 Tryz.results39 (by simp)]
   unfold tntE
   cases h1 : acs op with
   | true => simp (maxSteps := 1000000) only [go_sem, acondK_bool, k_drawn_q, readsF, h1]
   | false =>
   cases h2 : decide (op = 3) with
   | false => cases h4 : tntEs c args <;> simp (maxSteps := 1000000) only [go_sem, acondK_bool, k_drawn_q, readsF, h1, h2, e1, h4]
   | true =>
   cases h3 : SS.has c s with
   | false =>
     rw [h3, if_neg (by decide)] at hf
     simp (maxSteps := 1000000) only [go_sem, acondK_bool, k_drawn_q, readsF, h1, h2, ho, hm, hf, h3]
   | true =>
     rw [h3, if_pos rfl] at hf
     cases h4 : tntEs c args <;> simp (maxSteps := 1000000) only [go_sem, acondK_bool, k_drawn_q, readsF, h1, h2, ho, hm, hf, h3, e1, h4]
mutual
def oprE (c : List Bytes) : E → Bool
 | .mk op n s args => (acs op && tntEs c args) || oprEs c args
def oprEs (c : List Bytes) : List E → Bool
 | [] => false
 | x :: l => oprE c x || oprEs c l
end
theorem oprEs_any (c : List Bytes) : ∀ l, oprEs c l = l.any (oprE c)
 | [] => rfl
 | x :: l => by simp [oprEs, oprEs_any c l]
theorem operandP {i m : Nat} {c : List Bytes} : ∀ e, E.Ok e → ∀ (A : AHeap), HasAn A i m c → acl C 40 [.ptr i 0, E.av e] A = some (.d (.bool (oprE c e)), A) := by
 intro e
 induction e using E.ind with
 | h op n s args ih =>
   intro hok A hA
   have e1 := containsFuncEG args hok.len 39 [.ptr i 0] [] (tntE c) A (fun x hx => taintedP x (hok.arg x hx) A hA)
   have e2 := containsFuncEG args hok.len 40 [.ptr i 0] [] (oprE c) A (fun x hx => ih x hx (hok.arg x hx) A hA)
   rw [← tntEs_any] at e1
   rw [← oprEs_any] at e2
   rw [k_call (c := C) (f := 40) rfl Tryz.func40 rfl (ok 40 (by kernel_rfl)) rfl Tryz.ntmps40 Tryz.results40 (by simp)]
   unfold oprE
   cases h1 : acs op with
   | false => cases h4 : oprEs c args <;> simp (maxSteps := 1000000) only [go_sem, acondK_bool, k_drawn_q, readsF, h1, e2, h4]
   | true => cases h3 : tntEs c args <;> cases h4 : oprEs c args <;> simp (maxSteps := 1000000) only [go_sem, acondK_bool, k_drawn_q, readsF, h1, e1, e2, h3, h4]
def anH (B : List AObj) (a b d : Dat) (u : List ABuf) (c : List Bytes) : AHeap := ⟨B ++ [.map (mb c), .cells [.d a, .d b, .d d, .mapr B.length]], u⟩
section
variable {B : List AObj} {a b d : Dat} {u : List ABuf} {c c' : List Bytes}
theorem an_obj : (anH B a b d u c).objs[B.length + 1]? = some (.cells [.d a, .d b, .d d, .mapr B.length]) := by simp [anH]
theorem an_map : (anH B a b d u c).objs[B.length]? = some (.map (mb c)) := by simp [anH]
theorem an_set : (⟨(anH B a b d u c).objs.set B.length (.map (mb c')), (anH B a b d u c).bufs⟩ : AHeap) = anH B a b d u c' := by simp [anH]
theorem an_has : HasAn (anH B a b d u c) (B.length + 1) B.length c := ⟨⟨a, b, d, an_obj⟩, an_map⟩
theorem an_fin {f : FuncId} (ho : C.own f = false) {v : AV} (h : v.still3 = true) : afinR C f (anH B a b d u c) (anH B a b d u c') (some v) = some (v.clean3, anH B a b d u c') :=
 afinR_len ho h (by simp [anH]) rfl
end
def drtS (c : List Bytes) (op : Int) (a b : E) : Bool := tntE c a || (decide (op = 6) && tntE c b)
def delS (c : List Bytes) (u : Bool) (op : Int) (name : Bytes) (a b : E) : List Bytes := if (!(name == []) && (u || drtS c op a b)) = true then SS.del c name else c
def undS (c : List Bytes) (u : Bool) (op : Int) (a b : E) : Bool := u || ((decide (op = 5) || decide (op = 6)) && drtS c op a b)
mutual
def flS : Stm → List Bytes → Bool → List Bytes
 | .mk op name max a b body els => fun c u => flL els (flL body (delS c u op name a b) (undS c u op a b)) (undS c u op a b)
def flL : List Stm → List Bytes → Bool → List Bytes
 | [] => fun c _ => c
 | x :: l => fun c u => flL l (flS x c u) u
end
theorem flL_snoc : ∀ (l : List Stm) (x : Stm) (c : List Bytes) (u : Bool), flL (l ++ [x]) c u = flS x (flL l c u) u
 | [], x, c, u => rfl
 | y :: l, x, c, u => by simp only [List.cons_append, flL]; exact flL_snoc l x _ u
def FlowGood (l : List Stm) : Prop := ∀ (B : List AObj) (a b d : Dat) (u : List ABuf) (c : List Bytes) (under : Bool),
 acl C 36 [.ptr (B.length + 1) 0, .d (.slice (l.map Stm.row)), .d (.bool under)] (anH B a b d u c) = some (.tuple [], anH B a b d u (flL l c under))
set_option maxHeartbeats 8000000 in
theorem flow_of (l : List Stm) (hlen : l.length ≤ 4194303) (hok : ∀ x ∈ l, x.Ok) (ih : ∀ x ∈ l, FlowGood x.body ∧ FlowGood x.els) : FlowGood l := by
 intro B ka kb kd u c under
 have fin := fun c c' => an_fin (B := B) (a := ka) (b := kb) (d := kd) (u := u) (c := c) (c' := c') (f := 36) (v := .tuple []) rfl rfl
 rw [k_call (c := C) (f := 36) rfl Tryz.func36 rfl (ok 36 (by kernel_rfl)) rfl Tryz.ntmps36 Tryz.results36 (by simp)]
 simp (maxSteps := 1000000) only [go_sem, acondK_bool]
 refine loop_any (fun pre => [(12, .v (.d (.int .i64 (pre.length : Nat)))), (2, .v (.d (.bool under))), (0, .v (.ptr (B.length + 1) 0)), (10, .v (.d (.slice (l.map Stm.row)))), (11, .v (.d (.int .i64 (l.length : Nat))))])
  (fun pre => anH B ka kb kd u (flL pre c under)) (fun _ _ => some (.tuple [], anH B ka kb kd u (flL l c under))) l rfl rfl rfl ?_
 intro pre suf hl ih2
 have hb : pre.length < 9223372036854775807 := by rw [hl] at hlen; simp at hlen; omega
 cases suf with
 | nil =>
   rw [List.append_nil] at hl
   subst hl
   have e4 : decide ((l.length : Int) < (l.length : Int)) = false := by simp
   simp (maxSteps := 1000000) only [go_sem, acondK_bool, e4, fin]
   done
 | cons x suf =>
   have hx : x ∈ l := by rw [hl]; simp
   have e2 := ih2 x suf rfl
   rw [List.length_append, List.length_cons, List.length_nil, flL_snoc] at e2
   have e3 : (l.map Stm.row)[pre.length]? = some (Stm.row x) := by rw [hl]; exact map_mid
   have e4 : decide ((pre.length : Int) < (l.length : Int)) = true := by rw [hl]; simp; omega
   generalize flL pre c under = c1 at *
   have t1 := taintedP x.a (Stm.Ok.a (hok x hx)) _ (an_has (B := B) (a := ka) (b := kb) (d := kd) (u := u) (c := c1))
   have t2 := taintedP x.b (Stm.Ok.b (hok x hx)) _ (an_has (B := B) (a := ka) (b := kb) (d := kd) (u := u) (c := c1))
   have b1 := (ih x hx).1 B ka kb kd u
   have b2 := (ih x hx).2 B ka kb kd u
   obtain ⟨op, name, max, a, b, body, els⟩ := x
   rw [Stm.row_eq] at e3
   have f1 : flS (.mk op name max a b body els) c1 under = flL els (flL body (delS c1 under op name a b) (undS c1 under op a b)) (undS c1 under op a b) := rfl
   rw [f1] at e2
   change acl C _ [_, E.av a] _ = _ at t1
   change acl C _ [_, E.av b] _ = _ at t2
   have g1 := b1 (delS c1 under op name a b) (undS c1 under op a b)
   have g2 := b2 (flL body (delS c1 under op name a b) (undS c1 under op a b)) (undS c1 under op a b)
   change acl C _ [_, .d (.slice (body.map Stm.row)), _] _ = some (_, anH B ka kb kd u (flL body _ _)) at g1
   change acl C _ [_, .d (.slice (els.map Stm.row)), _] _ = some (_, anH B ka kb kd u (flL els _ _)) at g2
   generalize hw : flL els (flL body (delS c1 under op name a b) (undS c1 under op a b)) (undS c1 under op a b) = w at *
   generalize hv : flL body (delS c1 under op name a b) (undS c1 under op a b) = v at *
   have q1 : delS c1 under op name a b = if (!(name == []) && (under || drtS c1 op a b)) = true then SS.del c1 name else c1 := rfl
   have q2 : undS c1 under op a b = (under || ((decide (op = 5) || decide (op = 6)) && drtS c1 op a b)) := rfl
   have q3 : drtS c1 op a b = (tntE c1 a || (decide (op = 6) && tntE c1 b)) := rfl
   rw [q1, q2, q3] at g1
   rw [q2, q3] at g2
   clear q1 q2 q3 hw hv f1
   simp (maxSteps := 1000000) only [go_sem, k_drawn_t, e3, e4, t1, t2]
   refine wayK (fun h => ?_) (fun h => ?_)
   ·have hX : (!(name == []) && (under || (tntE c1 a || (decide (op = 6) && tntE c1 b)))) = true := by rw [← ifnot]; exact h
    rw [hX, if_pos rfl] at g1
    simp (maxSteps := 1000000) only [go_sem, acondK_bool, k_drawn_t, an_obj, an_map, adel_mb, an_set]
    refine Eq.trans (ctE_ok (by repeat (first | exact MLe.nil | apply MLe.qq | apply MLe.q | apply MLe.o | apply MLe.b | apply MLe.l)) (by kernel_rfl)) ?_
    simp (maxSteps := 1000000) only [go_sem, acondK_bool, k_drawn_t, g1, g2, e2, wrap_nat hb]
   ·have hX : (!(name == []) && (under || (tntE c1 a || (decide (op = 6) && tntE c1 b)))) = false := by rw [← ifnot]; exact h
    rw [hX, if_neg (by decide)] at g1
    simp (maxSteps := 1000000) only [go_sem, acondK_bool, k_drawn_t, g1, g2, e2, wrap_nat hb]
end Go.Proofs.YtpbdjgdmhfibmaaGreatDoor
set_option linter.all false
namespace Go.Proofs.YtpbdjgdmhfibmaaGreatDoor
open Go.Abs
attribute [local congr] ite_congr
set_option maxRecDepth 10000
theorem get_frontF {α : Type} {l m : List α} {i : Nat} {x : α} (h : l[i]? = some x) : (l ++ m)[i]? = some x := by
 rw [List.getElem?_append_left (lt_of_get h)]
 exact h
theorem HasAn.more {A : AHeap} {i m : Nat} {c : List Bytes} (h : HasAn A i m c) (o : AObj) : HasAn ⟨A.objs ++ [o], A.bufs⟩ i m c := by
 obtain ⟨⟨x0, x1, x2, ho⟩, hm⟩ := h
 exact ⟨⟨x0, x1, x2, get_frontF ho⟩, get_frontF hm⟩
theorem indexFuncSG (l : List Stm) (hl : l.length ≤ 1099511627776) (f : FuncId) (fs cs : List AV) (q : Stm → Bool) (A : AHeap) (hq : ∀ x ∈ l, acl C f (fs ++ Stm.av x :: cs) A = some (.d (.bool (q x)), A)) :
  acl C 77 [.d (.slice (l.map Stm.row)), .func (.func f) fs cs] A = some (.d (.int .i64 (idxF q l 0)), A) := by
 rw [k_call (c := C) (f := 77) rfl Tryz.func77 rfl (ok 77 (by kernel_rfl)) rfl Tryz.ntmps77 Tryz.results77 (by simp)]
 simp (maxSteps := 1000000) +contextual only [go_sem, acondK_bool]
 refine loop_list (fun i => [(7, .v (.d (.int .i64 (l.length : Nat)))), (1, .v (.func (.func f) fs cs)), (0, .v (.d (.slice (l.map Stm.row)))), (8, .v (.d (.int .i64 (i : Nat))))])
  (fun pre suf => some (.d (.int .i64 (idxF q suf pre.length)), A)) l rfl rfl ?_
 intro pre suf h ih
 have hb : pre.length < 9223372036854775807 := by rw [h] at hl; simp at hl; omega
 cases suf with
 | nil => rw [List.append_nil] at h; subst h; simp (maxSteps := 1000000) +contextual only [go_sem, acondK_bool, idxF]
 | cons x suf =>
   have e1 := hq x (by rw [h]; simp)
   have e2 := ih x suf rfl
   rw [List.length_append, List.length_cons, List.length_nil] at e2
   have e3 : (l.map Stm.row)[pre.length]? = some (Stm.row x) := by rw [h]; exact map_mid
   have e4 : decide ((pre.length : Int) < (l.length : Int)) = true := by rw [h]; simp; omega
   rw [Stm.row_eq] at e3
   simp (maxSteps := 1000000) +contextual only [go_sem, acondK_bool, e3, e4, e1, e2, wrap_nat hb, idxF]
theorem containsFuncSG (l : List Stm) (hl : l.length ≤ 1099511627776) (f : FuncId) (fs cs : List AV) (q : Stm → Bool) (A : AHeap) (hq : ∀ x ∈ l, acl C f (fs ++ Stm.av x :: cs) A = some (.d (.bool (q x)), A)) :
  acl C 37 [.d (.slice (l.map Stm.row)), .func (.func f) fs cs] A = some (.d (.bool (l.any q)), A) := by
 rw [k_call (c := C) (f := 37) rfl Tryz.func37 rfl (ok 37 (by kernel_rfl)) rfl Tryz.ntmps37 Tryz.results37 (by simp)]
 have e1 := indexFuncSG l hl f fs cs q A hq
 simp (maxSteps := 1000000) +contextual only [go_sem, acondK_bool, e1, idxF_nonneg]
mutual
def keyS (c : List Bytes) : Stm → Bool
 | .mk op name max a b body els => ((decide (op = 3) || decide (op = 4)) && tntE c a) || (oprE c a || (oprE c b || (keyL c body || keyL c els)))
def keyL (c : List Bytes) : List Stm → Bool
 | [] => false
 | x :: l => keyS c x || keyL c l
end
theorem keyL_any (c : List Bytes) : ∀ l, keyL c l = l.any (keyS c)
 | [] => rfl
 | x :: l => by simp [keyL, keyL_any c l]
def KeyGood (l : List Stm) : Prop := ∀ (i m : Nat) (c : List Bytes) (A : AHeap), HasAn A i m c → acl C 19 [.ptr i 0, .d (.slice (l.map Stm.row))] A = some (.d (.bool (keyL c l)), A)
set_option maxHeartbeats 8000000 in
theorem key_of (l : List Stm) (hlen : l.length ≤ 4194303) (hok : ∀ x ∈ l, x.Ok) (ih : ∀ x ∈ l, KeyGood x.body ∧ KeyGood x.els) : KeyGood l := by
 intro i m c A hA
 have hA2 := hA.more (.cells [.ptr i 0])
 have e1 := containsFuncSG l (by omega) 38 [] [.ptr A.objs.length 0] (keyS c) ⟨A.objs ++ [.cells [.ptr i 0]], A.bufs⟩ (by
  intro x hx
  have hid : (A.objs ++ [AObj.cells [.ptr i 0]])[A.objs.length]? = some (.cells [.ptr i 0]) := by simp
  have t1 := taintedP x.a (Stm.Ok.a (hok x hx)) _ hA2
  have o1 := operandP x.a (Stm.Ok.a (hok x hx)) _ hA2
  have o2 := operandP x.b (Stm.Ok.b (hok x hx)) _ hA2
  have b1 := (ih x hx).1 i m c _ hA2
  have b2 := (ih x hx).2 i m c _ hA2
  obtain ⟨op, name, max, a, b, body, els⟩ := x
  unfold keyS
  change acl C _ [_, E.av a] _ = _ at t1
  change acl C _ [_, E.av a] _ = _ at o1
  change acl C _ [_, E.av b] _ = _ at o2
  change acl C _ [_, .d (.slice (body.map Stm.row))] _ = some (.d (.bool (keyL c body)), _) at b1
  change acl C _ [_, .d (.slice (els.map Stm.row))] _ = some (.d (.bool (keyL c els)), _) at b2
  show acl C 38 [Stm.av (.mk op name max a b body els), .ptr A.objs.length 0] _ = _
  rw [k_call (c := C) (f := 38) rfl Tryz.func38 rfl (ok 38 (by kernel_rfl)) rfl Tryz.ntmps38 Tryz.results38 (by simp)]
  simp (maxSteps := 1000000) only [go_sem, acondK_bool, k_drawn_q, t1, o1, o2, b1, b2]
  refine leafB ?_
  simp only [Bool.or_assoc])
 rw [← keyL_any] at e1
 rw [k_call (c := C) (f := 19) rfl Tryz.func19 rfl (ok 19 (by kernel_rfl)) rfl Tryz.ntmps19 Tryz.results19 (by simp)]
 simp (maxSteps := 1000000) only [go_sem, acondK_bool, k_drawn_q, e1]
mutual
def brnS (c : List Bytes) : Stm → Bool
 | .mk op name max a b body els => (decide (op = 5) && tntE c a) || ((decide (op = 6) && (tntE c a || tntE c b)) || (brnL c body || brnL c els))
def brnL (c : List Bytes) : List Stm → Bool
 | [] => false
 | x :: l => brnS c x || brnL c l
end
theorem brnL_any (c : List Bytes) : ∀ l, brnL c l = l.any (brnS c)
 | [] => rfl
 | x :: l => by simp [brnL, brnL_any c l]
def BrnGood (l : List Stm) : Prop := ∀ (i m : Nat) (c : List Bytes) (A : AHeap), HasAn A i m c → acl C 20 [.ptr i 0, .d (.slice (l.map Stm.row))] A = some (.d (.bool (brnL c l)), A)
set_option maxHeartbeats 8000000 in
theorem brn_of (l : List Stm) (hlen : l.length ≤ 4194303) (hok : ∀ x ∈ l, x.Ok) (ih : ∀ x ∈ l, BrnGood x.body ∧ BrnGood x.els) : BrnGood l := by
 intro i m c A hA
 have hA2 := hA.more (.cells [.ptr i 0])
 have e1 := containsFuncSG l (by omega) 41 [] [.ptr A.objs.length 0] (brnS c) ⟨A.objs ++ [.cells [.ptr i 0]], A.bufs⟩ (by
  intro x hx
  have t1 := taintedP x.a (Stm.Ok.a (hok x hx)) _ hA2
  have t2 := taintedP x.b (Stm.Ok.b (hok x hx)) _ hA2
  have b1 := (ih x hx).1 i m c _ hA2
  have b2 := (ih x hx).2 i m c _ hA2
  obtain ⟨op, name, max, a, b, body, els⟩ := x
  unfold brnS
  change acl C _ [_, E.av a] _ = _ at t1
  change acl C _ [_, E.av b] _ = _ at t2
  change acl C _ [_, .d (.slice (body.map Stm.row))] _ = some (.d (.bool (brnL c body)), _) at b1
  change acl C _ [_, .d (.slice (els.map Stm.row))] _ = some (.d (.bool (brnL c els)), _) at b2
  show acl C 41 [Stm.av (.mk op name max a b body els), .ptr A.objs.length 0] _ = _
  rw [k_call (c := C) (f := 41) rfl Tryz.func41 rfl (ok 41 (by kernel_rfl)) rfl Tryz.ntmps41 Tryz.results41 (by simp)]
  simp (maxSteps := 1000000) only [go_sem, acondK_bool, k_drawn_q, t1, t2, b1, b2]
  refine leafB ?_
  simp only [Bool.or_assoc])
 rw [← brnL_any] at e1
 rw [k_call (c := C) (f := 20) rfl Tryz.func20 rfl (ok 20 (by kernel_rfl)) rfl Tryz.ntmps20 Tryz.results20 (by simp)]
 simp (maxSteps := 1000000) only [go_sem, acondK_bool, k_drawn_q, e1]
theorem flow_in : ∀ x : Stm, x.Ok → FlowGood x.body ∧ FlowGood x.els := by
 intro x
 induction x using Stm.ind with
 | h op name max a b body els ihb ihe =>
   intro hok
   obtain ⟨f1, f2⟩ := stmFit2 hok
   exact ⟨flow_of body f1 (Stm.Ok.bodyOk hok) (fun y hy => ihb y hy (Stm.Ok.bodyOk hok y hy)), flow_of els f2 (Stm.Ok.elsOk hok) (fun y hy => ihe y hy (Stm.Ok.elsOk hok y hy))⟩
theorem flowP (p : Pr) (hp : p.Ok) : FlowGood p.body := flow_of p.body hp.bfit hp.body fun x hx => flow_in x (hp.body x hx)
theorem key_in : ∀ x : Stm, x.Ok → KeyGood x.body ∧ KeyGood x.els := by
 intro x
 induction x using Stm.ind with
 | h op name max a b body els ihb ihe =>
   intro hok
   obtain ⟨f1, f2⟩ := stmFit2 hok
   exact ⟨key_of body f1 (Stm.Ok.bodyOk hok) (fun y hy => ihb y hy (Stm.Ok.bodyOk hok y hy)), key_of els f2 (Stm.Ok.elsOk hok) (fun y hy => ihe y hy (Stm.Ok.elsOk hok y hy))⟩
theorem keyP (p : Pr) (hp : p.Ok) : KeyGood p.body := key_of p.body hp.bfit hp.body fun x hx => key_in x (hp.body x hx)
theorem brn_in : ∀ x : Stm, x.Ok → BrnGood x.body ∧ BrnGood x.els := by
 intro x
 induction x using Stm.ind with
 | h op name max a b body els ihb ihe =>
   intro hok
   obtain ⟨f1, f2⟩ := stmFit2 hok
   exact ⟨brn_of body f1 (Stm.Ok.bodyOk hok) (fun y hy => ihb y hy (Stm.Ok.bodyOk hok y hy)), brn_of els f2 (Stm.Ok.elsOk hok) (fun y hy => ihe y hy (Stm.Ok.elsOk hok y hy))⟩
theorem brnP (p : Pr) (hp : p.Ok) : BrnGood p.body := brn_of p.body hp.bfit hp.body fun x hx => brn_in x (hp.body x hx)
end Go.Proofs.YtpbdjgdmhfibmaaGreatDoor
set_option linter.all false
namespace Go.Proofs.YtpbdjgdmhfibmaaGreatDoor
open Go.Abs
set_option maxRecDepth 10000
theorem ssdel_sub (k : Bytes) : ∀ c : List Bytes, (SS.del c k).Sublist c
 | [] => List.Sublist.refl _
 | j :: l => by
   unfold SS.del
   split
   ·exact List.sublist_cons_self _ _
   ·exact (ssdel_sub k l).cons₂ _
theorem delS_sub (c : List Bytes) (u : Bool) (op : Int) (name : Bytes) (a b : E) : (delS c u op name a b).Sublist c := by
 unfold delS
 split
 ·exact ssdel_sub _ _
 ·exact List.Sublist.refl _
mutual
theorem flS_sub : ∀ (x : Stm) (c : List Bytes) (u : Bool), (flS x c u).Sublist c
 | .mk op name max a b body els, c, u => (flL_sub els _ _).trans ((flL_sub body _ _).trans (delS_sub c u op name a b))
theorem flL_sub : ∀ (l : List Stm) (c : List Bytes) (u : Bool), (flL l c u).Sublist c
 | [], c, u => List.Sublist.refl _
 | x :: l, c, u => (flL_sub l _ u).trans (flS_sub x c u)
end
def itG (F : List Bytes → List Bytes) : Nat → List Bytes → List Bytes
 | 0, c => c
 | n + 1, c => itG F n (F c)
theorem itG_succ (F : List Bytes → List Bytes) : ∀ (n : Nat) (c : List Bytes), itG F (n + 1) c = F (itG F n c)
 | 0, c => rfl
 | n + 1, c => by
   show itG F (n + 1) (F c) = _
   rw [itG_succ F n (F c)]
   rfl
theorem itG_add (F : List Bytes → List Bytes) : ∀ (m n : Nat) (c : List Bytes), itG F (m + n) c = itG F n (itG F m c)
 | 0, n, c => by rw [Nat.zero_add]; rfl
 | m + 1, n, c => by
   rw [Nat.add_right_comm]
   exact itG_add F m n (F c)
theorem itG_fix {F : List Bytes → List Bytes} {c : List Bytes} (h : F c = c) : ∀ n, itG F n c = c
 | 0 => rfl
 | n + 1 => by show itG F n (F c) = c; rw [h, itG_fix h n]
theorem itG_same {F : List Bytes → List Bytes} {c : List Bytes} {m n : Nat} (hm : F (itG F m c) = itG F m c) (hn : F (itG F n c) = itG F n c) : itG F m c = itG F n c := by
 have h1 := itG_add F m n c
 have h2 := itG_add F n m c
 rw [itG_fix hm] at h1
 rw [itG_fix hn, Nat.add_comm] at h2
 rw [← h1, h2]
theorem rest_of (l : List Stm) : ∀ (n : Nat) (c : List Bytes), c.length ≤ n → flL l (itG (fun c => flL l c false) n c) false = itG (fun c => flL l c false) n c
 | 0, c, h => by
   have : c = [] := List.eq_nil_of_length_eq_zero (by omega)
   subst this
   have := flL_sub l [] false
   exact List.eq_nil_of_sublist_nil this
 | n + 1, c, h => by
   show flL l (itG _ n (flL l c false)) false = itG _ n (flL l c false)
   have hs := flL_sub l c false
   by_cases he : (flL l c false).length = c.length
   ·have hf : flL l c false = c := hs.eq_of_length he
    rw [hf, itG_fix (F := fun c => flL l c false) hf, hf]
   ·have := hs.length_le
    exact rest_of l n _ (by omega)
def c0S (p : Pr) : List Bytes := metL [] (namesS p)
def clnS (p : Pr) : List Bytes := itG (fun c => flL p.body c false) (c0S p).length (c0S p)
theorem cln_rest (p : Pr) : flL p.body (clnS p) false = clnS p := rest_of p.body _ _ (Nat.le_refl _)
theorem cln_of {p : Pr} {j : Nat} (h : flL p.body (itG (fun c => flL p.body c false) j (c0S p)) false = itG (fun c => flL p.body c false) j (c0S p)) : itG (fun c => flL p.body c false) j (c0S p) = clnS p :=
 itG_same h (cln_rest p)
end Go.Proofs.YtpbdjgdmhfibmaaGreatDoor
set_option linter.all false
namespace Go.Proofs.YtpbdjgdmhfibmaaGreatDoor
open Go.Abs
attribute [local congr] ite_congr
set_option maxRecDepth 10000
theorem an_ptr {f : FuncId} (ho : C.own f = false) {A : AHeap} {a b d : Dat} {c : List Bytes} {i : Nat} : afinR C f A (anH A.objs a b d A.bufs c) (some (.ptr i 0)) = some (.ptr i 0, anH A.objs a b d A.bufs c) := by
 simp only [afinR, Option.map_some, afinish, ho, Bool.false_eq_true, if_false, acleanR, acleanV, aclean]
 unfold acut
 simp [anH, AV.noptr, AV.noptr2, AV.noptr1]
theorem an_back {f : FuncId} (ho : C.own f = false) {A : AHeap} {a b d : Dat} {c : List Bytes} {v : AV} (h : v.still3 = true) : afinR C f A (anH A.objs a b d A.bufs c) (some v) = some (v.clean3, A) := afinR_obj ho h
abbrev prH (p : Pr) (A : AHeap) (c : List Bytes) : AHeap := anH A.objs (.str p.name) (.slice (p.params.map Pm.row)) (.slice (p.body.map Stm.row)) A.bufs c
theorem len_mb (c : List Bytes) : (mb c).length = c.length := by simp [mb]
theorem analyze (p : Pr) (hp : p.Ok) (h40 : p.params.length ≤ 40) (A : AHeap) : acl C 18 [Pr.av p] A = some (.ptr (A.objs.length + 1) 0, prH p A (clnS p)) := by
 have n1 := names p hp (by omega)
 have hnl := namesS_len p h40
 have fl := flowP p hp
 rw [k_call (c := C) (f := 18) rfl Tryz.func18 rfl (ok 18 (by kernel_rfl)) rfl Tryz.ntmps18 Tryz.results18 (by simp)]
 simp (maxSteps := 1000000) only [go_sem, acondK_bool, n1]
 refine loop_any (fun pre => [(14, .v (.d (.int .i64 (pre.length : Nat)))), (3, .v (.ptr (A.objs.length + 1) 0)), (12, .v (.d (.slice ((namesS p).map sRow)))), (1, .box [.d (.str p.name), .d (.slice (p.params.map Pm.row)), .d (.slice (p.body.map Stm.row))]), (13, .v (.d (.int .i64 ((namesS p).length : Nat))))])
  (fun pre => prH p A (metL [] pre)) (fun _ _ => some (.ptr (A.objs.length + 1) 0, prH p A (clnS p))) (namesS p) rfl rfl rfl ?_
 intro pre suf hl ih
 have hb : pre.length < 9223372036854775807 := by rw [hl] at hnl; simp at hnl; omega
 cases suf with
 | cons x suf =>
   have e2 := ih x suf rfl
   rw [List.length_append, List.length_cons, List.length_nil, metL_snoc] at e2
   have e3 : ((namesS p).map sRow)[pre.length]? = some [.str x] := by rw [hl]; exact map_mid
   have e4 : decide ((pre.length : Int) < ((namesS p).length : Int)) = true := by rw [hl]; simp; omega
   simp (maxSteps := 1000000) only [go_sem, acondK_bool, e3, e4, an_obj, an_map, aupd_mb, an_set, e2, wrap_nat hb]
 | nil =>
 rw [List.append_nil] at hl
 have e4 : decide ((pre.length : Int) < ((namesS p).length : Int)) = false := by rw [hl]; simp
 simp (maxSteps := 1000000) only [go_sem, acondK_bool, e4]
 refine loop_meas (fun s : List Bytes × Int => [(6, .v (.d (.int .i64 s.2))), (1, .box [.d (.str p.name), .d (.slice (p.params.map Pm.row)), .d (.slice (p.body.map Stm.row))]), (3, .v (.ptr (A.objs.length + 1) 0))])
  (fun s => prH p A s.1) (fun s => 2 * s.1.length + (if s.2 = (s.1.length : Nat) then 0 else 1)) (fun s => (∃ j, s.1 = itG (fun c => flL p.body c false) j (c0S p)) ∧ (s.2 = (s.1.length : Nat) → flL p.body s.1 false = s.1)) (metL [] pre, -1) rfl rfl
  ⟨⟨0, by rw [← hl]; rfl⟩, fun h => by simp at h⟩ ?_
 intro s hI ih2
 obtain ⟨c, bf⟩ := s
 obtain ⟨⟨j, hj⟩, hfix⟩ := hI
 change c = _ at hj
 change bf = (c.length : Nat) → flL p.body c false = c at hfix
 have f1 := fl A.objs (.str p.name) (.slice (p.params.map Pm.row)) (.slice (p.body.map Stm.row)) A.bufs c false
 have fin := fun i => an_ptr (f := 18) (A := A) (a := .str p.name) (b := .slice (p.params.map Pm.row)) (d := .slice (p.body.map Stm.row)) (c := clnS p) (i := i) rfl
 cases h : decide (bf = (c.length : Int)) with
 | true =>
   have hf := hfix (by simpa using h)
   have hc : c = clnS p := by
    rw [hj] at hf ⊢
    exact cln_of hf
   rw [hc] at h ⊢
   simp (maxSteps := 1000000) only [go_sem, acondK_bool, an_obj, an_map, len_mb, h, fin]
 | false =>
   have hs := flL_sub p.body c false
   have hle := hs.length_le
   have e5 := ih2 (flL p.body c false, (c.length : Nat)) (by
    show 2 * (flL p.body c false).length + (if ((c.length : Nat) : Int) = ((flL p.body c false).length : Nat) then 0 else 1) < 2 * c.length + (if bf = ((c.length : Nat) : Int) then 0 else 1)
    rw [if_neg (show ¬ bf = ((c.length : Nat) : Int) by simpa using h)]
    split <;> omega) ⟨⟨j + 1, by rw [itG_succ, ← hj]⟩, fun h2 => by
     have h3 : (flL p.body c false).length = c.length := by
      have : ((c.length : Nat) : Int) = ((flL p.body c false).length : Nat) := h2
      omega
     have h4 : flL p.body c false = c := hs.eq_of_length h3
     show flL p.body (flL p.body c false) false = flL p.body c false
     rw [h4, h4]⟩
   simp (maxSteps := 1000000) only [go_sem, acondK_bool, an_obj, an_map, len_mb, h, f1, e5]
end Go.Proofs.YtpbdjgdmhfibmaaGreatDoor
