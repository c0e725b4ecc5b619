/- The types of expressions: the walk of the program's function. -/
import Derived.Test.YtpbdjgdmhfibmaaGreatDoorSeatG
import Derived.Test.YtpbdjgdmhfibmaaGreatDoorSeatD
import Derived.Test.YtpbdjgdmhfibmaaGreatDoorSeatA
set_option linter.all false
namespace Go.Proofs.YtpbdjgdmhfibmaaGreatDoor
open Go.Abs
attribute [local congr] ite_congr
set_option maxRecDepth 100000
theorem chkL_mem : ∀ (l : List E) (d : Int), chkL l d = 0 → ∀ x ∈ l, chkE x d = 0
 | [], _, _, x, h => by simp at h
 | y :: l, d, h, x, hx => by
   rw [chkL_cons] at h
   rcases List.mem_cons.1 hx with rfl | hx
   ·exact h.1
   ·exact chkL_mem l d h.2 x hx
theorem grI_get {l : List Int} {i : Nat} {x : Int} (h : l[i]? = some x) : (l.map iRow)[i]? = some [.int .i64 x] := by
 rw [List.getElem?_map, h]; rfl
theorem typeOfE (id : Nat) (vis : NM) : ∀ e, E.Ok e → ∀ d, chkE e d = 0 → ∀ (A : AHeap), A.objs[id]? = some (.map (mi vis)) →
  acl C 180 [E.av e, .mapr id] A = some (.tuple [.d (.int .i64 (ofE vis.get e).1), .d (.int .i64 (ofE vis.get e).2)], A) := by
 intro e
 induction e using E.ind with
 | h op n s args ih =>
   intro hok d hv A hid
   rw [chkE_zero] at hv
   obtain ⟨hn, hL⟩ := hv
   have hlen := hok.fit
   have hz := nodeS_zero hn
   rw [kC Tryz.func180 rfl Tryz.ntmps180 Tryz.results180]
   cases h3 : decide (op = 3) with
   | true =>
     simp only [ofE, h3, if_true]
     have hf := afind_mi s vis
     cases hg : vis.get s with
     | none =>
       rw [hg, Option.map_none] at hf
       simp only [go_sem, acondK_bool, h3, hid, hf, varS]
     | some t =>
       rw [hg, Option.map_some] at hf
       cases ht : (decide (t < 1) || decide (3 < t)) with
       | true => simp +contextual only [go_sem, acondK_bool, h3, hid, hf, varS, ht]
       | false => simp +contextual only [go_sem, acondK_bool, h3, hid, hf, varS, ht]
   | false =>
   simp only [ofE, h3, Bool.false_eq_true, if_false]
   simp only [go_sem, acondK_bool, h3]
   refine loop_any (fun pre => [(40, .v (.d (.int .i64 (args.length : Nat)))), (2, .box [.d (.int .i64 op), .d (.int .i64 n), .d (.str s), .d (.slice (args.map E.row))]), (39, .v (.d (.slice (args.map E.row)))), (1, .v (.mapr id)), (41, .v (.d (.int .i64 (pre.length : Nat)))), (8, .v (grI A (pre.map fun x => (ofE vis.get x).1)).1)])
    (fun pre => (grI A (pre.map fun x => (ofE vis.get x).1)).2) (fun pre suf => some (.tuple [.d (.int .i64 (ofL vis.get op (pre.map fun x => (ofE vis.get x).1) suf).1), .d (.int .i64 (ofL vis.get op (pre.map fun x => (ofE vis.get x).1) suf).2)], A)) args rfl rfl rfl ?_
   intro pre suf hl ih2
   have hb : pre.length < 9223372036854775807 := by rw [hl] at hlen; simp at hlen; omega
   cases suf with
   | cons x suf =>
     have hx : x ∈ args := by rw [hl]; simp
     have e1 := ih x hx (hok.arg x hx) _ (chkL_mem args _ hL x hx) (grI A (pre.map fun x => (ofE vis.get x).1)).2 (by rw [growObjs]; exact hid)
     have e2 := ih2 x suf rfl
     rw [List.length_append, List.length_cons, List.length_nil, List.map_append, List.map_cons, List.map_nil] at e2
     have e3 : (args.map E.row)[pre.length]? = some (E.row x) := by rw [hl]; exact map_mid
     have e4 : decide ((pre.length : Int) < (args.length : Int)) = true := by rw [hl]; simp; omega
     have e5 := grI_append A (pre.map fun x => (ofE vis.get x).1) (ofE vis.get x).1 (by rw [hl] at hlen; simp at hlen ⊢; omega)
     have e6 := fun a b => afin_growN (f := 180) rfl A 3 1 ((pre.map fun x => (ofE vis.get x).1).map iRow) a b
     rw [E.row_eq] at e3
     cases h5 : decide ((ofE vis.get x).2 = 0) with
     | true => simp only [go_sem, acondK_bool, e3, e4, e1, e5, h5, ofL, e2, wrap_nat hb]
     | false => simp only [go_sem, acondK_bool, e3, e4, e1, h5, ofL, e6]
   | nil =>
     rw [List.append_nil] at hl
     subst hl
     have e6 := fun a b => afin_growN (f := 180) rfl A 3 1 ((args.map fun x => (ofE vis.get x).1).map iRow) a b
     have e7 : ((args.map fun x => (ofE vis.get x).1).length : Int) = ar op := by rw [List.length_map]; exact hz.2.2.1
     have e8 : (args.map fun x => (ofE vis.get x).1).length ≤ 4194303 := by rw [List.length_map]; exact hlen
     simp only [ofL]
     generalize (args.map fun x => (ofE vis.get x).1) = ts at *
     unfold finS
     cases h6 : (decide (10 ≤ op) && decide (op ≤ 15)) with
     | true =>
       have ho : 10 ≤ op ∧ op ≤ 15 := by simpa using h6
       have h2 : ts.length = 2 := by
        have : ar op = 2 := by unfold ar; rw [if_neg (by omega), if_neg (by omega), if_neg (by omega)]
        omega
       have g6 : decide (10 ≤ op) = true := by simp; omega
       have g7 : decide (op ≤ 15) = true := by simp; omega
       obtain ⟨x, y, rfl⟩ : ∃ x y, ts = [x, y] := by
        match ts, h2 with
        | [x, y], _ => exact ⟨x, y, rfl⟩
       have i0 : aindex 1 (grI A [x, y]).2 0 (grI A [x, y]).1 = some (.eptr A.bufs.length 2 0 0) := aindex_growG (i := 0) (by simp)
       have i1 : aindex 1 (grI A [x, y]).2 1 (grI A [x, y]).1 = some (.eptr A.bufs.length 2 1 0) := aindex_growG (i := 1) (by simp)
       have l0 : ∀ nn agg, aload (grI A [x, y]).2 nn agg (.eptr A.bufs.length 2 0 0) = apart [.d (.int .i64 x)] 0 nn agg := fun nn agg => aload_growG (rows := [x, y].map iRow) (i := 0) rfl
       have l1 : ∀ nn agg, aload (grI A [x, y]).2 nn agg (.eptr A.bufs.length 2 1 0) = apart [.d (.int .i64 y)] 0 nn agg := fun nn agg => aload_growG (rows := [x, y].map iRow) (i := 1) rfl
       simp only [List.getD_cons_zero, List.getD_cons_succ]
       cases h8 : decide (x = y) with
       | false => simp only [go_sem, acondK_bool, g6, g7, k_drawn_q, i0, i1, l0, l1, h8, comparedOf, e6]
       | true =>
         cases h9 : cmpS op x with
         | false => simp only [go_sem, acondK_bool, g6, g7, k_drawn_q, i0, i1, l0, l1, h8, h9, comparedOf, e6]
         | true => simp only [go_sem, acondK_bool, g6, g7, k_drawn_q, i0, i1, l0, l1, h8, h9, comparedOf, e6]
     | false =>
       simp only [Bool.false_eq_true, if_false]
       cases g6 : decide (10 ≤ op) with
       | false =>
         simp only [go_sem, acondK_bool, g6, sigOf, alen_grow]
         refine loop_any (fun pre => [(90, .v (.d (.int .i64 (ts.length : Nat)))), (14, .v (.d (.int .i64 (sigR op)))), (89, .v (grI A ts).1), (13, .v (.d (.int .i64 (sigW op)))), (91, .v (.d (.int .i64 (pre.length : Nat))))])
          (fun _ => (grI A ts).2) (fun _ suf => some (.tuple [.d (.int .i64 (if suf.all (fun t => decide (t = sigW op)) = true then (sigR op, 0) else (0, 10) : Int × Int).1), .d (.int .i64 (if suf.all (fun t => decide (t = sigW op)) = true then (sigR op, 0) else (0, 10) : Int × Int).2)], A)) ts (by simp) rfl rfl ?_
         intro pre suf hl2 ih3
         have hb2 : pre.length < 9223372036854775807 := by rw [hl2] at e8; simp at e8; omega
         cases suf with
         | nil => rw [List.append_nil] at hl2; subst hl2; simp only [go_sem, acondK_bool, e6, List.all_nil]
         | cons y suf =>
           have f2 := ih3 y suf rfl
           rw [List.length_append, List.length_cons, List.length_nil] at f2
           have f3 : (ts.map iRow)[pre.length]? = some [.int .i64 y] := grI_get (by rw [hl2]; simp)
           have f4 : decide ((pre.length : Int) < (ts.length : Int)) = true := by rw [hl2]; simp; omega
           have f5 : aindex 1 (grI A ts).2 (pre.length : Nat) (grI A ts).1 = some (.eptr A.bufs.length ts.length pre.length 0) := (aindex_growG (by rw [hl2]; simp)).trans (by rw [List.length_map])
           have f6 : ∀ nn agg, aload (grI A ts).2 nn agg (.eptr A.bufs.length ts.length pre.length 0) = apart [.d (.int .i64 y)] 0 nn agg := fun nn agg => by
            have := aload_growG (A := A) (e := 3) (sz := 1) (n := nn) (agg := agg) f3
            rw [List.length_map] at this
            exact this
           cases h9 : decide (y = sigW op) with
           | false => simp only [go_sem, acondK_bool, f4, f5, f6, h9, e6, List.all_cons]
           | true => simp only [go_sem, acondK_bool, f4, f5, f6, h9, f2, wrap_nat hb2, List.all_cons]
       | true =>
         have g7 : decide (op ≤ 15) = false := by rw [g6] at h6; simpa using h6
         simp only [go_sem, acondK_bool, g6, g7, sigOf, alen_grow]
         refine loop_any (fun pre => [(90, .v (.d (.int .i64 (ts.length : Nat)))), (14, .v (.d (.int .i64 (sigR op)))), (89, .v (grI A ts).1), (13, .v (.d (.int .i64 (sigW op)))), (91, .v (.d (.int .i64 (pre.length : Nat))))])
          (fun _ => (grI A ts).2) (fun _ suf => some (.tuple [.d (.int .i64 (if suf.all (fun t => decide (t = sigW op)) = true then (sigR op, 0) else (0, 10) : Int × Int).1), .d (.int .i64 (if suf.all (fun t => decide (t = sigW op)) = true then (sigR op, 0) else (0, 10) : Int × Int).2)], A)) ts (by simp) rfl rfl ?_
         intro pre suf hl2 ih3
         have hb2 : pre.length < 9223372036854775807 := by rw [hl2] at e8; simp at e8; omega
         cases suf with
         | nil => rw [List.append_nil] at hl2; subst hl2; simp only [go_sem, acondK_bool, e6, List.all_nil]
         | cons y suf =>
           have f2 := ih3 y suf rfl
           rw [List.length_append, List.length_cons, List.length_nil] at f2
           have f3 : (ts.map iRow)[pre.length]? = some [.int .i64 y] := grI_get (by rw [hl2]; simp)
           have f4 : decide ((pre.length : Int) < (ts.length : Int)) = true := by rw [hl2]; simp; omega
           have f5 : aindex 1 (grI A ts).2 (pre.length : Nat) (grI A ts).1 = some (.eptr A.bufs.length ts.length pre.length 0) := (aindex_growG (by rw [hl2]; simp)).trans (by rw [List.length_map])
           have f6 : ∀ nn agg, aload (grI A ts).2 nn agg (.eptr A.bufs.length ts.length pre.length 0) = apart [.d (.int .i64 y)] 0 nn agg := fun nn agg => by
            have := aload_growG (A := A) (e := 3) (sz := 1) (n := nn) (agg := agg) f3
            rw [List.length_map] at this
            exact this
           cases h9 : decide (y = sigW op) with
           | false => simp only [go_sem, acondK_bool, f4, f5, f6, h9, e6, List.all_cons]
           | true => simp only [go_sem, acondK_bool, f4, f5, f6, h9, f2, wrap_nat hb2, List.all_cons]
@[go_sem] theorem aindex_slice1 {i : Nat} {A : AHeap} {r : List (List Dat)} : aindex i A 1 (.d (.slice r)) = arowS i r[1]? := aindex_slice (n := 1)
def getP (l : List Pm) (k : Bytes) : Option Int := match l with
 | [] => none
 | x :: l => if (x.name == k) = true then some x.type else getP l k
structure CkS where
 vis : NM
 loops : List Bytes
 all : NM
def ckH (B R : List AObj) (b : List ABuf) (s : CkS) : AHeap :=
 ⟨B ++ (.map (mi s.vis) :: .map (mb s.loops) :: .map (mi s.all) :: .cells [.mapr B.length, .mapr (B.length + 1), .mapr (B.length + 2)] :: R), b⟩
section
variable {B R : List AObj} {b : List ABuf} {s s' : CkS}
theorem ck_obj : (ckH B R b s).objs[B.length + 3]? = some (.cells [.mapr B.length, .mapr (B.length + 1), .mapr (B.length + 2)]) := by simp [ckH]
theorem ck_vis : (ckH B R b s).objs[B.length]? = some (.map (mi s.vis)) := by simp [ckH]
theorem ck_loops : (ckH B R b s).objs[B.length + 1]? = some (.map (mb s.loops)) := by simp [ckH]
theorem ck_all : (ckH B R b s).objs[B.length + 2]? = some (.map (mi s.all)) := by simp [ckH]
theorem ck_setv {m : NM} : (⟨(ckH B R b s).objs.set B.length (.map (mi m)), (ckH B R b s).bufs⟩ : AHeap) = ckH B R b { s with vis := m } := by simp [ckH]
theorem ck_setl {m : List Bytes} : (⟨(ckH B R b s).objs.set (B.length + 1) (.map (mb m)), (ckH B R b s).bufs⟩ : AHeap) = ckH B R b { s with loops := m } := by simp [ckH]
theorem ck_seta {m : NM} : (⟨(ckH B R b s).objs.set (B.length + 2) (.map (mi m)), (ckH B R b s).bufs⟩ : AHeap) = ckH B R b { s with all := m } := by simp [ckH]
theorem ck_fin {f : FuncId} (ho : C.own f = false) {v : AV} (h : v.still3 = true) : afinR C f (ckH B R b s) (ckH B R b s') (some v) = some (v.clean3, ckH B R b s') :=
 afinR_len ho h (by simp [ckH]) rfl
end
def opsS (lk : Bytes → Option Int) (x : Stm) : Int × Int × Int :=
 if decide (x.op = 8) = true then (0, 0, 0) else
 if (decide ((ofE lk x.a).2 = 0) && (decide (x.op = 3) || decide (x.op = 6))) = true then ((ofE lk x.a).1, (ofE lk x.b).1, (ofE lk x.b).2) else ((ofE lk x.a).1, 0, (ofE lk x.a).2)
def dclS (s : CkS) (k : Bytes) (t : Int) : CkS := { s with vis := s.vis.put k t, all := s.all.put k t }
def dels (m : NM) : List Stm → NM
 | [] => m
 | x :: l => dels (if decide (x.op = 1) = true then m.del x.name else m) l
def endB (r : Int × CkS) (l : List Stm) : Int × CkS := if decide (r.1 = 0) = true then (0, { r.2 with vis := dels r.2.vis l }) else r
mutual
def stP (s : CkS) : Stm → Int × CkS
 | .mk op name max a b body els =>
   let r := opsS s.vis.get (.mk op name max a b body els)
   if decide (r.2.2 = 0) = true then
    if decide (op = 1) = true then (0, dclS s name r.1)
    else if decide (op = 2) = true then (match s.vis.get name with
     | none => (11, s)
     | some t => if SS.has s.loops name = true then (7, s) else if decide (t = r.1) = true then (0, s) else (10, s))
    else if decide (op = 3) = true then (if (!decide (r.1 = 2) || decide (r.2.1 = 3)) = true then (10, s) else (0, s))
    else if decide (op = 4) = true then (if decide (r.1 = 2) = true then (0, s) else (10, s))
    else if decide (op = 7) = true then (if decide (r.1 = 3) = true then (10, s) else (0, s))
    else if decide (op = 5) = true then (if decide (r.1 = 3) = true then
      (if decide ((endB (blP s body) body).1 = 0) = true then endB (blP (endB (blP s body) body).2 els) els else endB (blP s body) body) else (10, s))
    else if decide (op = 6) = true then (if (!decide (r.1 = 1) || !decide (r.2.1 = 1)) = true then (10, s) else
      ((endB (blP { dclS s name 1 with loops := SS.put s.loops name } body) body).1,
        { (endB (blP { dclS s name 1 with loops := SS.put s.loops name } body) body).2 with vis := (endB (blP { dclS s name 1 with loops := SS.put s.loops name } body) body).2.vis.del name }))
    else (0, s)
   else (r.2.2, s)
def blP (s : CkS) : List Stm → Int × CkS
 | [] => (0, s)
 | x :: l => if decide ((stP s x).1 = 0) = true then blP (stP s x).2 l else stP s x
end
theorem declare (B R : List AObj) (b : List ABuf) (s : CkS) (k : Bytes) (t : Int) : acl C 72 [.ptr (B.length + 3) 0, .d (.str k), .d (.int .i64 t)] (ckH B R b s) = some (.tuple [], ckH B R b (dclS s k t)) := by
 have f := fun s s' => ck_fin (B := B) (R := R) (b := b) (s := s) (s' := s') (f := 72) (v := .tuple []) rfl rfl
 rw [kC Tryz.func72 rfl Tryz.ntmps72 Tryz.results72]
 simp only [go_sem, acondK_bool, ck_obj, ck_vis, ck_all, aupd_mi, ck_setv, ck_seta, f, dclS]
 try rfl
theorem operandsP {d : Int} (B R : List AObj) (b : List ABuf) (s : CkS) (x : Stm) (hx : x.Ok) (hs : StmOk x d) : acl C 157 [.ptr (B.length + 3) 0, Stm.av x] (ckH B R b s) =
  some (.tuple [.d (.int .i64 (opsS s.vis.get x).1), .d (.int .i64 (opsS s.vis.get x).2.1), .d (.int .i64 (opsS s.vis.get x).2.2)], ckH B R b s) := by
 have xa := Stm.Ok.a hx
 have xb := Stm.Ok.b hx
 rw [kC Tryz.func157 rfl Tryz.ntmps157 Tryz.results157]
 unfold opsS
 by_cases h8 : x.op = 8
 ·have d8 : decide (x.op = 8) = true := by simp [h8]
  simp only [go_sem, acondK_bool, d8]
 ·have d8 : decide (x.op = 8) = false := by simp [h8]
  have ua : uA x.op = true := by have := hs.op; simp [uA]; omega
  have e1 := typeOfE B.length s.vis x.a xa 1 (hs.a ua) (ckH B R b s) ck_vis
  cases h1 : decide ((ofE s.vis.get x.a).2 = 0) with
  | false => simp only [go_sem, acondK_bool, d8, ck_obj, k_drawn_q, e1, h1]
  | true =>
    by_cases hb : uB x.op = true
    ·have e2 := typeOfE B.length s.vis x.b xb 1 (hs.b hb) (ckH B R b s) ck_vis
     have hb' : (decide (x.op = 3) || decide (x.op = 6)) = true := hb
     cases h3 : decide (x.op = 3) with
     | true => simp only [go_sem, acondK_bool, d8, ck_obj, k_drawn_q, e1, h1, h3, e2]
     | false =>
       have h6 : decide (x.op = 6) = true := by rw [h3] at hb'; simpa using hb'
       simp only [go_sem, acondK_bool, d8, ck_obj, k_drawn_q, e1, h1, h3, h6, e2]
    ·have hb' : (decide (x.op = 3) || decide (x.op = 6)) = false := by simpa [uB] using hb
     rw [Bool.or_eq_false_iff] at hb'
     simp only [go_sem, acondK_bool, d8, ck_obj, k_drawn_q, e1, h1, hb'.1, hb'.2]
def stAfter (s : CkS) : List Stm → CkS
 | [] => s
 | x :: l => stAfter (stP s x).2 l
theorem stAfter_snoc : ∀ (l : List Stm) (s : CkS) (x : Stm), stAfter s (l ++ [x]) = (stP (stAfter s l) x).2
 | [], s, x => rfl
 | y :: l, s, x => by simp only [List.cons_append, stAfter]; exact stAfter_snoc l _ x
theorem dels_snoc : ∀ (l : List Stm) (m : NM) (x : Stm), dels m (l ++ [x]) = if decide (x.op = 1) = true then (dels m l).del x.name else dels m l
 | [], m, x => rfl
 | y :: l, m, x => by simp only [List.cons_append, dels]; exact dels_snoc l _ x
theorem blP_nil (s : CkS) : blP s [] = (0, s) := by rw [blP]
theorem blP_cons (s : CkS) (x : Stm) (l : List Stm) : blP s (x :: l) = if decide ((stP s x).1 = 0) = true then blP (stP s x).2 l else stP s x := by rw [blP]
def StmGood (x : Stm) : Prop := ∀ (B R : List AObj) (b : List ABuf) (s : CkS), acl C 114 [.ptr (B.length + 3) 0, Stm.av x] (ckH B R b s) = some (.d (.int .i64 (stP s x).1), ckH B R b (stP s x).2)
set_option maxHeartbeats 1000000 in
theorem blockP (l : List Stm) (hl : l.length ≤ 4194303) (hg : ∀ x ∈ l, StmGood x) (B R : List AObj) (b : List ABuf) (s : CkS) :
  acl C 73 [.ptr (B.length + 3) 0, .d (.slice (l.map Stm.row))] (ckH B R b s) = some (.d (.int .i64 (endB (blP s l) l).1), ckH B R b (endB (blP s l) l).2) := by
 have f := fun s s' n => ck_fin (B := B) (R := R) (b := b) (s := s) (s' := s') (f := 73) (v := .d (.int .i64 n)) rfl rfl
 rw [kC Tryz.func73 rfl Tryz.ntmps73 Tryz.results73]
 simp only [go_sem, acondK_bool]
 refine loop_any (fun pre => [(11, .v (.d (.int .i64 (l.length : Nat)))), (1, .v (.d (.slice (l.map Stm.row)))), (10, .v (.d (.slice (l.map Stm.row)))), (0, .v (.ptr (B.length + 3) 0)), (12, .v (.d (.int .i64 (pre.length : Nat))))])
  (fun pre => ckH B R b (stAfter s pre)) (fun pre suf => some (.d (.int .i64 (endB (blP (stAfter s pre) suf) l).1), ckH B R b (endB (blP (stAfter s pre) suf) l).2)) l rfl rfl rfl ?_
 intro pre suf h ih
 have hb : pre.length < 9223372036854775807 := by rw [h] at hl; simp at hl; omega
 cases suf with
 | cons x suf =>
   have e1 := hg x (by rw [h]; simp) B R b (stAfter s pre)
   have e2 := ih x suf rfl
   rw [List.length_append, List.length_cons, List.length_nil, stAfter_snoc] at e2
   have e3 : (l.map Stm.row)[pre.length]? = some (Stm.row x) := by rw [h]; exact map_mid
   have e4 : decide ((pre.length : Int) < (l.length : Int)) = true := by rw [h]; simp; omega
   rw [Stm.row_eq] at e3
   rw [blP_cons]
   generalize stP (stAfter s pre) x = r at *
   cases h5 : decide (r.1 = 0) with
   | true => simp only [go_sem, acondK_bool, e3, e4, e1, h5, e2, wrap_nat hb]
   | false => simp only [go_sem, acondK_bool, e3, e4, e1, h5, endB, f]
 | nil =>
   rw [List.append_nil] at h
   subst h
   rw [blP_nil]
   simp only [endB, decide_true, if_true]
   generalize stAfter s l = s1 at *
   simp only [go_sem, acondK_bool]
   refine loop_any (fun pre => [(25, .v (.d (.int .i64 (pre.length : Nat)))), (0, .v (.ptr (B.length + 3) 0)), (23, .v (.d (.slice (l.map Stm.row)))), (24, .v (.d (.int .i64 (l.length : Nat))))])
    (fun pre => ckH B R b { s1 with vis := dels s1.vis pre }) (fun _ _ => some (.d (.int .i64 0), ckH B R b { s1 with vis := dels s1.vis l })) l rfl rfl rfl ?_
   intro pre suf h ih2
   have hb2 : pre.length < 9223372036854775807 := by rw [h] at hl; simp at hl; omega
   cases suf with
   | nil =>
     rw [List.append_nil] at h
     subst h
     simp only [go_sem, acondK_bool, f]
   | cons x suf =>
     have e2 := ih2 x suf rfl
     rw [List.length_append, List.length_cons, List.length_nil, dels_snoc] at e2
     have e3 : (l.map Stm.row)[pre.length]? = some (Stm.row x) := by rw [h]; exact map_mid
     have e4 : decide ((pre.length : Int) < (l.length : Int)) = true := by rw [h]; simp; omega
     rw [Stm.row_eq] at e3
     cases h5 : decide (x.op = 1) with
     | false =>
       rw [h5, if_neg (by decide)] at e2
       simp only [go_sem, acondK_bool, e3, e4, h5, e2, wrap_nat hb2]
     | true =>
       rw [h5, if_pos rfl] at e2
       have s1 : (⟨(ckH B R b { s1 with vis := dels s1.vis pre }).objs.set B.length (.map (mi ((dels s1.vis pre).del x.name))), (ckH B R b { s1 with vis := dels s1.vis pre }).bufs⟩ : AHeap) = ckH B R b { s1 with vis := (dels s1.vis pre).del x.name } := ck_setv
       simp only [go_sem, acondK_bool, e3, e4, h5, k_drawn_t, ck_obj, ck_vis, adel_mi, s1]
       refine Eq.trans ctB ?_
       simp only [go_sem, acondK_bool, e2, wrap_nat hb2]
theorem stmFit2 {x : Stm} (h : x.Ok) : x.body.length ≤ 4194303 ∧ x.els.length ≤ 4194303 := by
 cases h; exact ⟨by assumption, by assumption⟩
theorem visSs_mem {l : List Stm} {x : Stm} (hx : x ∈ l) (d : Int) : ∀ v ∈ visS x d, v ∈ visSs l d := by
 intro v hv
 induction l with
 | nil => cases hx
 | cons y l ih =>
   simp only [visSs, List.mem_append]
   rcases List.mem_cons.1 hx with rfl | hx
   ·exact .inl hv
   ·exact .inr (ih hx)
theorem vis_self (x : Stm) (d : Int) : Vis.s x d ∈ visS x d := by
 cases x
 simp [visS]
theorem vis_body {op : Int} {name : Bytes} {max : Int} {a b : E} {body els : List Stm} {d : Int} : ∀ v ∈ visSs body (IntKind.i64.wrap (d + 1)), v ∈ visS (.mk op name max a b body els) d := by
 intro v hv
 simp only [visS, List.mem_cons, List.mem_append]
 exact .inr (.inr (.inr (.inl hv)))
theorem vis_els {op : Int} {name : Bytes} {max : Int} {a b : E} {body els : List Stm} {d : Int} : ∀ v ∈ visSs els (IntKind.i64.wrap (d + 1)), v ∈ visS (.mk op name max a b body els) d := by
 intro v hv
 simp only [visS, List.mem_cons, List.mem_append]
 exact .inr (.inr (.inr (.inr hv)))
set_option maxHeartbeats 4000000 in
theorem statementP : ∀ x : Stm, x.Ok → ∀ d, (∀ y k, Vis.s y k ∈ visS x d → StmOk y k) → StmGood x := by
 intro x
 induction x using Stm.ind with
 | h op name max a b body els ihb ihe =>
   intro hok d hv B R bb s
   have hs := hv _ d (vis_self _ d)
   obtain ⟨f1, f2⟩ := stmFit2 hok
   have gb : ∀ y ∈ body, StmGood y := fun y hy => ihb y hy (Stm.Ok.bodyOk hok y hy) (IntKind.i64.wrap (d + 1)) (fun z k hz => hv z k (vis_body _ (visSs_mem hy _ _ hz)))
   have ge : ∀ y ∈ els, StmGood y := fun y hy => ihe y hy (Stm.Ok.elsOk hok y hy) (IntKind.i64.wrap (d + 1)) (fun z k hz => hv z k (vis_els _ (visSs_mem hy _ _ hz)))
   have kb := fun s => blockP body f1 gb B R bb s
   have ke := fun s => blockP els f2 ge B R bb s
   have o1 := operandsP B R bb s _ hok hs
   have dc := fun k t => declare B R bb s k t
   have fin := fun s s' n => ck_fin (B := B) (R := R) (b := bb) (s := s) (s' := s') (f := 114) (v := .d (.int .i64 n)) rfl rfl
   have hop := hs.op
   simp only [Stm.op] at hop
   rw [kC Tryz.func114 rfl Tryz.ntmps114 Tryz.results114]
   rw [stP]
   generalize opsS s.vis.get (.mk op name max a b body els) = r at *
   obtain ⟨r1, r2, r3⟩ := r
   simp only at o1 ⊢
   cases h0 : decide (r3 = 0) with
   | false => simp only [go_sem, acondK_bool, Stm.op, Stm.name, o1, h0, fin]
   | true =>
   have ho : op = 1 ∨ op = 2 ∨ op = 3 ∨ op = 4 ∨ op = 5 ∨ op = 6 ∨ op = 7 ∨ op = 8 := by omega
   rcases ho with rfl | rfl | rfl | rfl | rfl | rfl | rfl | rfl
   ·simp only [go_sem, acondK_bool, Stm.op, Stm.name, o1, h0, dc, fin]
   ·have hf := afind_mi name s.vis
    have hl := afind_mb name s.loops
    cases hg : s.vis.get name with
    | none =>
      rw [hg, Option.map_none] at hf
      simp only [go_sem, acondK_bool, Stm.op, Stm.name, o1, h0, k_drawn_q, ck_obj, ck_vis, hf, fin, hg]
    | some t =>
      rw [hg, Option.map_some] at hf
      cases hh : SS.has s.loops name with
      | true =>
        rw [hh, if_pos rfl] at hl
        simp only [go_sem, acondK_bool, Stm.op, Stm.name, o1, h0, k_drawn_q, ck_obj, ck_vis, ck_loops, hf, hl, hh, fin, hg]
      | false =>
        rw [hh, if_neg (by decide)] at hl
        cases ht : decide (t = r1) with
        | true => simp only [go_sem, acondK_bool, Stm.op, Stm.name, o1, h0, k_drawn_q, ck_obj, ck_vis, ck_loops, hf, hl, hh, ht, fin, hg]
        | false => simp only [go_sem, acondK_bool, Stm.op, Stm.name, o1, h0, k_drawn_q, ck_obj, ck_vis, ck_loops, hf, hl, hh, ht, fin, hg]
   ·cases h1 : decide (r1 = 2) with
    | false => simp only [go_sem, acondK_bool, Stm.op, Stm.name, o1, h0, h1, fin]
    | true => cases h2 : decide (r2 = 3) <;> simp only [go_sem, acondK_bool, Stm.op, Stm.name, o1, h0, h1, h2, fin]
   ·cases h1 : decide (r1 = 2) <;> simp only [go_sem, acondK_bool, Stm.op, Stm.name, o1, h0, h1, fin]
   ·cases h1 : decide (r1 = 3) with
    | false => simp only [go_sem, acondK_bool, Stm.op, Stm.name, o1, h0, h1, fin]
    | true => cases h2 : decide ((endB (blP s body) body).1 = 0) <;> simp only [go_sem, acondK_bool, Stm.op, Stm.name, o1, h0, h1, kb, ke, h2, fin]
   ·cases h1 : decide (r1 = 1) with
    | false => simp only [go_sem, acondK_bool, Stm.op, Stm.name, o1, h0, h1, fin]
    | true =>
      cases h2 : decide (r2 = 1) with
      | false => simp only [go_sem, acondK_bool, Stm.op, Stm.name, o1, h0, h1, h2, fin]
      | true =>
        have q1 : (⟨(ckH B R bb (dclS s name 1)).objs.set (B.length + 1) (.map (mb (SS.put s.loops name))), (ckH B R bb (dclS s name 1)).bufs⟩ : AHeap) = ckH B R bb { dclS s name 1 with loops := SS.put s.loops name } := ck_setl
        have q2 : (ckH B R bb (dclS s name 1)).objs[B.length + 1]? = some (.map (mb s.loops)) := ck_loops
        simp only [go_sem, acondK_bool, Stm.op, Stm.name, o1, h0, h1, h2, dc, k_drawn_t, ck_obj, q2, aupd_mb, q1]
        refine Eq.trans ctB ?_
        have k1 := kb { dclS s name 1 with loops := SS.put s.loops name }
        generalize endB (blP { dclS s name 1 with loops := SS.put s.loops name } body) body = e at *
        simp only [go_sem, acondK_bool, Stm.op, Stm.name, k1]
        simp only [go_sem, acondK_bool, Stm.op, Stm.name, k_drawn_t, ck_obj, ck_vis, adel_mi, ck_setv]
        refine Eq.trans ctB ?_
        simp only [go_sem, acondK_bool, Stm.op, Stm.name, fin]
   ·cases h1 : decide (r1 = 3) <;> simp only [go_sem, acondK_bool, Stm.op, Stm.name, o1, h0, h1, fin]
   ·simp only [go_sem, acondK_bool, Stm.op, Stm.name, o1, h0, fin]
def dclL (s : CkS) : List Pm → CkS
 | [] => s
 | x :: l => dclL (dclS s x.name x.type) l
theorem dclL_snoc : ∀ (l : List Pm) (s : CkS) (x : Pm), dclL s (l ++ [x]) = dclS (dclL s l) x.name x.type
 | [], s, x => rfl
 | y :: l, s, x => by simp only [List.cons_append, dclL]; exact dclL_snoc l _ x
def metL (m : List Bytes) : List Bytes → List Bytes
 | [] => m
 | x :: l => metL (SS.put m x) l
theorem metL_snoc : ∀ (l m : List Bytes) (x : Bytes), metL m (l ++ [x]) = SS.put (metL m l) x
 | [], m, x => rfl
 | y :: l, m, x => by simp only [List.cons_append, metL]; exact metL_snoc l _ x
def dupF (m : List Bytes) : List Bytes → Bool
 | [] => false
 | x :: l => SS.has m x || dupF (SS.put m x) l
def prmBool (l : List Pm) : Bool := l.any fun x => decide (x.type = 3)
def preErr (p : Pr) : Int := if decide (valS p = 0) = true then (if prmBool p.params = true then 10 else if dupF [] (namesS p) = true then 8 else 0) else valS p
def ck0 (p : Pr) : CkS := dclL ⟨[], [], []⟩ p.params
def ckB (p : Pr) : Int × CkS := endB (blP (ck0 p) p.body) p.body
def chkS (p : Pr) : Int := if decide (preErr p = 0) = true then (ckB p).1 else preErr p
theorem ck_met {B : List AObj} {b : List ABuf} {s : CkS} {m : List Bytes} : (ckH B [.map (mb m)] b s).objs[B.length + 4]? = some (.map (mb m)) := by simp [ckH]
theorem ck_setm {B : List AObj} {b : List ABuf} {s : CkS} {m m' : List Bytes} : (⟨(ckH B [.map (mb m)] b s).objs.set (B.length + 4) (.map (mb m')), (ckH B [.map (mb m)] b s).bufs⟩ : AHeap) = ckH B [.map (mb m')] b s := by simp [ckH]
theorem ck_new {B : List AObj} {b : List ABuf} {s : CkS} : (⟨(ckH B [] b s).objs ++ [.map []], (ckH B [] b s).bufs⟩ : AHeap) = ckH B [.map (mb [])] b s := by simp [ckH, mb]
theorem ck_len {B : List AObj} {b : List ABuf} {s : CkS} : (ckH B [] b s).objs.length = B.length + 4 := by simp [ckH]
theorem afin_early {f : FuncId} (ho : C.own f = false) {A : AHeap} {R : List AObj} {s : CkS} {v : AV} (h : v.still3 = true) : afinR C f A (ckH A.objs R A.bufs s) (some v) = some (v.clean3, A) := afinR_obj ho h
theorem afin_map {f : FuncId} (ho : C.own f = false) {A : AHeap} {R : List AObj} {s : CkS} {i : Nat} {e : Int} :
  afinR C f A (ckH A.objs R A.bufs s) (some (.tuple [.mapr i, .d (.int .i64 e)])) = some (.tuple [.mapr i, .d (.int .i64 e)], ckH A.objs R A.bufs s) := by
 simp only [afinR, Option.map_some, afinish, ho, Bool.false_eq_true, if_false, acleanR, acleanVs, acleanV, aclean]
 unfold acut
 simp [ckH, AV.noptr, AV.noptr2, AV.noptr1]
theorem bodyGood {p : Pr} (hp : p.Ok) (V : Vld p) : ∀ x ∈ p.body, StmGood x := fun x hx => statementP x (hp.body x hx) 1 fun y k hy => stmtS_zero (V.stm y k (visSs_mem hx _ _ hy))
set_option maxHeartbeats 2000000 in
theorem check_all (p : Pr) (hp : p.Ok) (h40 : p.params.length ≤ 40) (A : AHeap) :
  (preErr p ≠ 0 → acl C 34 [Pr.av p] A = some (.tuple [.nilM, .d (.int .i64 (preErr p))], A)) ∧
  (preErr p = 0 → acl C 34 [Pr.av p] A = some (.tuple [.mapr (A.objs.length + 2), .d (.int .i64 (ckB p).1)], ckH A.objs [.map (mb (metL [] (namesS p)))] A.bufs (ckB p).2)) := by
 have v1 := validate p hp
 have n1 := names p hp (by omega)
 have fe : ∀ R s n, afinR C 34 A (ckH A.objs R A.bufs s) (some (.tuple [.nilM, .d (.int .i64 n)])) = some (.tuple [.nilM, .d (.int .i64 n)], A) :=
  fun R s n => afin_early (f := 34) (A := A) (R := R) (s := s) (v := .tuple [.nilM, .d (.int .i64 n)]) rfl rfl
 have f0 : ∀ n, afinR C 34 A A (some (.tuple [.nilM, .d (.int .i64 n)])) = some (.tuple [.nilM, .d (.int .i64 n)], A) :=
  fun n => afinR_still (c := C) (f := 34) (v := .tuple [.nilM, .d (.int .i64 n)]) rfl rfl
 have key : acl C 34 [Pr.av p] A = if decide (preErr p = 0) = true then some (.tuple [.mapr (A.objs.length + 2), .d (.int .i64 (ckB p).1)], ckH A.objs [.map (mb (metL [] (namesS p)))] A.bufs (ckB p).2) else some (.tuple [.nilM, .d (.int .i64 (preErr p))], A) := by
  rw [kC Tryz.func34 rfl Tryz.ntmps34 Tryz.results34]
  cases h1 : decide (valS p = 0) with
  | false =>
    have h2 : preErr p = valS p := by unfold preErr; rw [if_neg (by rw [h1]; decide)]
    have h3 : decide (preErr p = 0) = false := by rw [h2]; exact h1
    rw [h3, if_neg (by decide), h2]
    simp only [go_sem, acondK_bool, v1, h1, f0]
  | true =>
  have V := (valS_zero p).1 (by simpa using h1)
  have h2 : preErr p = if prmBool p.params = true then 10 else if dupF [] (namesS p) = true then 8 else 0 := by unfold preErr; rw [if_pos h1]
  rw [h2]
  simp only [go_sem, acondK_bool, v1, h1]
  refine loop_any (fun pre => [(24, .v (.d (.int .i64 (p.params.length : Nat)))), (1, .box [.d (.str p.name), .d (.slice (p.params.map Pm.row)), .d (.slice (p.body.map Stm.row))]), (23, .v (.d (.slice (p.params.map Pm.row)))), (5, .v (.ptr (A.objs.length + 3) 0)), (25, .v (.d (.int .i64 (pre.length : Nat))))])
   (fun pre => ckH A.objs [] A.bufs (dclL ⟨[], [], []⟩ pre)) (fun _ suf => if decide ((if prmBool suf = true then (10 : Int) else if dupF [] (namesS p) = true then 8 else 0) = 0) = true then some (.tuple [.mapr (A.objs.length + 2), .d (.int .i64 (ckB p).1)], ckH A.objs [.map (mb (metL [] (namesS p)))] A.bufs (ckB p).2) else some (.tuple [.nilM, .d (.int .i64 (if prmBool suf = true then (10 : Int) else if dupF [] (namesS p) = true then 8 else 0))], A)) p.params rfl rfl rfl ?_
  intro pre suf hl ih
  have hb : pre.length < 9223372036854775807 := by rw [hl] at h40; simp at h40; omega
  cases suf with
  | cons x suf =>
    have dc := fun s k t => declare A.objs [] A.bufs s k t
    have e2 := ih x suf rfl
    rw [List.length_append, List.length_cons, List.length_nil, dclL_snoc] at e2
    have e3 : (p.params.map Pm.row)[pre.length]? = some [.str x.name, .int .i64 x.type] := by rw [hl]; exact map_mid
    have e4 : decide ((pre.length : Int) < (p.params.length : Int)) = true := by rw [hl]; simp; omega
    have e5 : prmBool (x :: suf) = (decide (x.type = 3) || prmBool suf) := rfl
    rw [e5]
    cases h5 : decide (x.type = 3) with
    | true => simp only [go_sem, acondK_bool, e3, e4, h5, fe]
    | false => simp only [go_sem, acondK_bool, e3, e4, h5, dc, e2, wrap_nat hb]
  | nil =>
  rw [List.append_nil] at hl
  subst hl
  have e5 : prmBool [] = false := rfl
  rw [e5]
  simp only [Bool.false_eq_true, if_false]
  simp only [go_sem, acondK_bool, ck_new, ck_len, n1]
  have hnl := namesS_len p h40
  refine loop_any (fun pre => [(42, .v (.d (.int .i64 ((namesS p).length : Nat)))), (5, .v (.ptr (A.objs.length + 3) 0)), (1, .box [.d (.str p.name), .d (.slice (p.params.map Pm.row)), .d (.slice (p.body.map Stm.row))]), (41, .v (.d (.slice ((namesS p).map sRow)))), (8, .v (.mapr (A.objs.length + 4))), (43, .v (.d (.int .i64 (pre.length : Nat))))])
   (fun pre => ckH A.objs [.map (mb (metL [] pre))] A.bufs (ck0 p)) (fun pre suf => if decide ((if dupF (metL [] pre) suf = true then (8 : Int) else 0) = 0) = true then some (.tuple [.mapr (A.objs.length + 2), .d (.int .i64 (ckB p).1)], ckH A.objs [.map (mb (metL [] (namesS p)))] A.bufs (ckB p).2) else some (.tuple [.nilM, .d (.int .i64 (if dupF (metL [] pre) suf = true then (8 : Int) else 0))], A)) (namesS p) rfl rfl rfl ?_
  intro pre suf hl ih2
  have hb2 : pre.length < 9223372036854775807 := by rw [hl] at hnl; simp at hnl; omega
  cases suf with
  | cons x suf =>
    have e2 := ih2 x suf rfl
    rw [List.length_append, List.length_cons, List.length_nil, metL_snoc] at e2
    have e3 : ((namesS p).map sRow)[pre.length]? = some [.str x] := by rw [hl]; exact map_mid
    have e4 : decide ((pre.length : Int) < ((namesS p).length : Int)) = true := by rw [hl]; simp; omega
    have e6 : dupF (metL [] pre) (x :: suf) = (SS.has (metL [] pre) x || dupF (SS.put (metL [] pre) x) suf) := rfl
    rw [e6]
    have hm := afind_mb x (metL [] pre)
    cases h5 : SS.has (metL [] pre) x with
    | true =>
      rw [h5, if_pos rfl] at hm
      simp only [go_sem, acondK_bool, e3, e4, ck_met, hm, h5, fe]
    | false =>
      rw [h5, if_neg (by decide)] at hm
      simp only [go_sem, acondK_bool, e3, e4, ck_met, hm, aupd_mb, ck_setm, h5, e2, wrap_nat hb2]
  | nil =>
  rw [List.append_nil] at hl
  have e7 : dupF (metL [] pre) [] = false := rfl
  rw [e7]
  rw [← hl]
  have bl := blockP p.body hp.bfit (bodyGood hp V) A.objs [.map (mb (metL [] (namesS p)))] A.bufs (ck0 p)
  have fm := fun s e => afin_map (f := 34) (A := A) (R := [.map (mb (metL [] (namesS p)))]) (s := s) (i := A.objs.length + 2) (e := e) rfl
  have bl' : acl C 73 [.ptr (A.objs.length + 3) 0, .d (.slice (p.body.map Stm.row))] (ckH A.objs [.map (mb (metL [] (namesS p)))] A.bufs (ck0 p)) = some (.d (.int .i64 (ckB p).1), ckH A.objs [.map (mb (metL [] (namesS p)))] A.bufs (ckB p).2) := bl
  simp only [go_sem, acondK_bool, bl', ck_obj, fm]
 constructor
 ·intro h
  rw [key, if_neg (by simpa using h)]
 ·intro h
  rw [key, if_pos (by simpa using h)]
theorem checkOf (p : Pr) (hp : p.Ok) (h40 : p.params.length ≤ 40) (A : AHeap) : acl C 17 [Pr.av p] A = some (.d (.int .i64 (chkS p)), A) := by
 obtain ⟨c1, c2⟩ := check_all p hp h40 A
 have fe := fun R s n => afin_early (f := 17) (A := A) (R := R) (s := s) (v := .d (.int .i64 n)) rfl rfl
 rw [kC Tryz.func17 rfl Tryz.ntmps17 Tryz.results17]
 unfold chkS
 by_cases h : preErr p = 0
 ·rw [if_pos (by simpa using h)]
  simp only [go_sem, acondK_bool, c2 h, fe]
 ·rw [if_neg (by simpa using h)]
  simp only [go_sem, acondK_bool, c1 h]
def dupR (pre : List Bytes) : List Bytes → Bool
 | [] => false
 | x :: l => (pre.any fun y => y == x) || dupR (pre ++ [x]) l
end Go.Proofs.YtpbdjgdmhfibmaaGreatDoor
namespace Go.Proofs.YtpbdjgdmhfibmaaGreatDoor
open Go.Abs
theorem ss_put (m : List Bytes) (k j : Bytes) : SS.has (SS.put m k) j = ((j == k) || SS.has m j) := by
 induction m with
 | nil => simp [SS.put, SS.has]
 | cons i m ih =>
   simp only [SS.put]
   by_cases h : (k == i) = true
   ·have : k = i := by simpa using h
    subst this
    rw [if_pos h]
    simp [SS.has]
   ·rw [if_neg h]
    unfold SS.has at ih ⊢
    rw [List.any_cons, ih, List.any_cons]
    cases (j == i) <;> cases (j == k) <;> simp
theorem met_has (l : List Bytes) : ∀ (m : List Bytes) (x : Bytes), SS.has (metL m l) x = (SS.has m x || l.any fun y => y == x) := by
 induction l with
 | nil => intro m x; simp [metL]
 | cons y l ih =>
   intro m x
   rw [metL, ih, ss_put, List.any_cons, Bool.beq_comm (a := y)]
   cases SS.has m x <;> cases (x == y) <;> simp
theorem dup_eq : ∀ (l pre : List Bytes), dupF (metL [] pre) l = dupR pre l
 | [], _ => rfl
 | x :: l, pre => by
   have ih := dup_eq l (pre ++ [x])
   rw [metL_snoc] at ih
   simp only [dupF, dupR]
   rw [ih, met_has]
   rfl
def uniq (m : NM) : Prop := (m.map Prod.fst).Nodup
structure Link (s : CkS) (vars : List Pm) (loops : List Bytes) (T : List Pm) : Prop where
 l1 : ∀ k, s.vis.get k = getP vars k
 l1t : ∀ k t, getP vars k = some t → 1 ≤ t ∧ t ≤ 3
 l2 : ∀ k t, getP vars k = some t → SS.has s.loops k = loops.any fun j => j == k
 l3a : ∀ k t, getP vars k = some t → getP T k = some t
 l3b : ∀ k, SS.has s.loops k = true → k ∈ T.map Pm.name
 l3c : ∀ k, (loops.any fun j => j == k) = true → k ∈ T.map Pm.name
 l4 : ∀ k, s.all.get k = getP T k
 u : uniq s.vis
theorem prmF_zero3 : ∀ (l pre : List Pm), prmF pre l = 0 → (∀ x ∈ l, isName x.name = true ∧ 1 ≤ x.type ∧ x.type ≤ 3) ∧ (∀ x ∈ l, ∀ y ∈ pre, y.name ≠ x.name) ∧ (l.map Pm.name).Nodup
 | [], pre, _ => by simp
 | x :: l, pre, h => by
   unfold prmF at h
   split at h
   ·cases h
   rename_i h1
   split at h
   ·cases h
   rename_i h2
   split at h
   ·cases h
   rename_i h3
   obtain ⟨k1, k2, k3⟩ := prmF_zero3 l (pre ++ [x]) h
   simp at h1 h2 h3
   refine ⟨fun y hy => ?_, fun y hy z hz => ?_, ?_⟩
   ·rcases List.mem_cons.1 hy with rfl | hy
    ·exact ⟨h1, by omega, by omega⟩
    ·exact k1 y hy
   ·rcases List.mem_cons.1 hy with rfl | hy
    ·exact h3 z hz
    ·exact k2 y hy z (List.mem_append_left _ hz)
   ·rw [List.map_cons, List.nodup_cons]
    refine ⟨fun hm => ?_, k3⟩
    obtain ⟨y, hy, he⟩ := List.mem_map.1 hm
    exact k2 y hy x (List.mem_append_right _ (List.mem_cons_self ..)) he.symm
theorem prmS_zero3 (l : List Pm) : prmS l = 0 ↔ (prmS l = 0 ∧ l.length ≤ 6) ∧ (∀ x ∈ l, isName x.name = true ∧ 1 ≤ x.type ∧ x.type ≤ 3) ∧ (l.map Pm.name).Nodup := by
 constructor
 ·intro h
  have h0 := h
  unfold prmS at h
  split at h
  ·cases h
  ·rename_i h1
   obtain ⟨k1, _, k3⟩ := prmF_zero3 l [] h
   refine ⟨⟨h0, by simp at h1; omega⟩, k1, k3⟩
 ·exact fun h => h.1.1
end Go.Proofs.YtpbdjgdmhfibmaaGreatDoor
