/- How a run ends: what the effect is. -/
import Derived.Test.YtpbdjgdmhfibmaaGreatDoorSeatH
import Derived.Test.YtpbdjgdmhfibmaaGreatDoorSeatF
import Derived.Test.YtpbdjgdmhfibmaaGreatDoorSeatD
import Derived.Test.YtpbdjgdmhfibmaaGreatDoorSeatC
import Derived.Test.YtpbdjgdmhfibmaaGreatDoorSeatE
import Derived.Test.YtpbdjgdmhfibmaaGreatDoorSeatA
set_option linter.unusedVariables false
set_option linter.unusedSimpArgs false
set_option linter.all false
set_option linter.deprecated false
set_option linter.all false
namespace Go.Proofs.YtpbdjgdmhfibmaaGreatDoor
open Go.Abs
attribute [local congr] ite_congr
set_option maxRecDepth 100000
def effAV (st code : Int) (out rd wr ws : List (List Dat)) (miss : Bytes) (steps : Int) : AV :=
 .agg [.d (.int .i64 st), .d (.int .i64 code), .d (.slice out), .d (.slice rd), .d (.slice wr), .d (.slice ws), .d (.str miss), .d (.int .i64 steps)]
def ClS (bs : List ABuf) (v : AV) (rows : List (List Dat)) : Prop := v = .d (.slice rows) ∨ ∃ e sz, ownS bs v e sz rows
theorem cleanO {A : AHeap} {v : AV} {rows : List (List Dat)} (h : ClS A.bufs v rows) : ∃ bs, aclean A v = (.d (.slice rows), ⟨A.objs, bs⟩) ∧ bs.length = A.bufs.length ∧ ∀ t, (∀ n, v ≠ .own t n) → bs[t]? = A.bufs[t]? := by
 rcases h with rfl | ⟨e, sz, ⟨rfl, rfl⟩ | ⟨tok, rfl, hb⟩⟩
 ·exact ⟨A.bufs, rfl, rfl, fun _ _ => rfl⟩
 ·exact ⟨A.bufs, rfl, rfl, fun _ _ => rfl⟩
 ·refine ⟨(A.freeze tok).bufs, ?_, by simp [AHeap.freeze], fun t ht => ?_⟩
  ·simp only [aclean, arows, hb]
   simp only [Nat.zero_le, and_self, if_true]
   rfl
  ·have hne : t ≠ tok := fun e => ht rows.length (by rw [e])
   rw [freeze_get, if_neg hne]
theorem ClS.step {bs bs' : List ABuf} {v w : AV} {rows : List (List Dat)} (h : ClS bs w rows) (hk : ∀ t, (∀ n, v ≠ .own t n) → bs'[t]? = bs[t]?) (hd : tokF v w) : ClS bs' w rows := by
 rcases h with rfl | ⟨e, sz, ⟨rfl, rfl⟩ | ⟨tok, rfl, hb⟩⟩
 ·exact .inl rfl
 ·exact .inr ⟨e, sz, .inl ⟨rfl, rfl⟩⟩
 ·refine .inr ⟨e, sz, .inr ⟨tok, rfl, ?_⟩⟩
  rw [hk tok (fun n hv => hd tok n tok rows.length hv rfl rfl)]
  exact hb
theorem clean_eff {A : AHeap} {O R V W : AV} {o r v w : List (List Dat)} (hO : ClS A.bufs O o) (hR : ClS A.bufs R r) (hV : ClS A.bufs V v) (hW : ClS A.bufs W w) (d1 : tokF O R) (d2 : tokF O V) (d3 : tokF R V) (d4 : tokF O W) (d5 : tokF R W) (d6 : tokF V W) (a0 a1 a6 a7 : Dat) :
  ∃ bs, acleanR A (.agg [.d a0, .d a1, O, R, V, W, .d a6, .d a7]) = (.agg [.d a0, .d a1, .d (.slice o), .d (.slice r), .d (.slice v), .d (.slice w), .d a6, .d a7], ⟨A.objs, bs⟩) ∧ bs.length = A.bufs.length ∧
    ∀ t, (∀ n, O ≠ .own t n ∧ R ≠ .own t n ∧ V ≠ .own t n ∧ W ≠ .own t n) → bs[t]? = A.bufs[t]? := by
 obtain ⟨b1, e1, l1, k1⟩ := cleanO hO
 obtain ⟨b2, e2, l2, k2⟩ := cleanO (A := ⟨A.objs, b1⟩) (hR.step k1 d1)
 obtain ⟨b3, e3, l3, k3⟩ := cleanO (A := ⟨A.objs, b2⟩) ((hV.step k1 d2).step k2 d3)
 obtain ⟨b4, e4, l4, k4⟩ := cleanO (A := ⟨A.objs, b3⟩) (((hW.step k1 d4).step k2 d5).step k3 d6)
 refine ⟨b4, ?_, by simp only at l2 l3 l4; omega, fun t ht => ?_⟩
 ·simp only at e2 e3 e4
  have c : ∀ (A : AHeap) (x : Dat), aclean A (.d x) = (.d x, A) := fun A x => by cases x <;> rfl
  simp only [acleanR, acleanV, acleans, c, e1, e2, e3, e4]
 ·simp only at k2 k3 k4
  rw [k4 t (fun n => (ht n).2.2.2), k3 t (fun n => (ht n).2.2.1), k2 t (fun n => (ht n).2.1), k1 t (fun n => (ht n).1)]
theorem fin_eff {f : FuncId} (ho : C.own f = false) {B : AHeap} {ext : List ABuf} {O R V W : AV} {o r v w : List (List Dat)} (hO : ClS (B.bufs ++ ext) O o) (hR : ClS (B.bufs ++ ext) R r) (hV : ClS (B.bufs ++ ext) V v) (hW : ClS (B.bufs ++ ext) W w) (d1 : tokF O R) (d2 : tokF O V) (d3 : tokF R V) (d4 : tokF O W) (d5 : tokF R W) (d6 : tokF V W) (a0 a1 a6 a7 : Dat) :
  ∃ bs, afinR C f B ⟨B.objs, B.bufs ++ ext⟩ (some (.agg [.d a0, .d a1, O, R, V, W, .d a6, .d a7])) = some (.agg [.d a0, .d a1, .d (.slice o), .d (.slice r), .d (.slice v), .d (.slice w), .d a6, .d a7], ⟨B.objs, bs⟩) ∧
    ∀ t, t < B.bufs.length → (∀ n, O ≠ .own t n ∧ R ≠ .own t n ∧ V ≠ .own t n ∧ W ≠ .own t n) → bs[t]? = B.bufs[t]? := by
 obtain ⟨bs, e, l, k⟩ := clean_eff (A := ⟨B.objs, B.bufs ++ ext⟩) hO hR hV hW d1 d2 d3 d4 d5 d6 a0 a1 a6 a7
 refine ⟨bs.take B.bufs.length, ?_, fun t ht hn => ?_⟩
 ·simp only [afinR, Option.map_some, afinish, ho, Bool.false_eq_true, if_false, e]
  unfold acut
  simp only [List.take_length, if_true]
  rfl
 ·rw [List.getElem?_take, if_pos ht, k t hn]
  exact List.getElem?_append_left ht
theorem ownS_one {bs : List ABuf} {v : AV} {e sz : Nat} {r : List (List Dat)} (h : ownS bs v e sz r) : v.one = true := by
 rcases h with ⟨rfl, _⟩ | ⟨t, rfl, _⟩ <;> rfl
structure Rest4 (B B' : AHeap) (x : Ids) : Prop where
 objs : B'.objs = B.objs
 bufs : ∀ t, t < B.bufs.length → ¬ used B x t → B'.bufs[t]? = B.bufs[t]?
theorem finishE {B : AHeap} {x : Ids} {m : Mc} (hS : HS B x m) (z : Stp) : ∃ B', acl C 48 [.ptr x.m 0, z.av, .d (.bool true)] B = some (effAV z.st z.code [] (srow m.reads) (srow m.writes) [] z.miss m.steps, B') ∧ Rest4 B B' x := by
 obtain ⟨ov, rv, wv, h⟩ := hS
 have hc := h.cell
 have nt : tokF (.d (.slice [])) rv ∧ tokF (.d (.slice [])) wv ∧ tokF (.d (.slice [])) .nilS ∧ tokF rv .nilS ∧ tokF wv .nilS := ⟨fun _ _ _ _ h => (by cases h), fun _ _ _ _ h => (by cases h), fun _ _ _ _ h => (by cases h), fun _ _ _ _ _ h => (by cases h), fun _ _ _ _ _ h => (by cases h)⟩
 obtain ⟨n1, n2, n3, n4, n5⟩ := nt
 obtain ⟨bs, e, k⟩ := fin_eff (f := 48) rfl (B := B) (ext := []) (O := .d (.slice [])) (R := rv) (V := wv) (W := .nilS) (o := []) (w := []) (.inl rfl) (by rw [List.append_nil]; exact .inr ⟨_, _, h.rd⟩) (by rw [List.append_nil]; exact .inr ⟨_, _, h.wr⟩) (.inr ⟨0, 0, .inl ⟨rfl, rfl⟩⟩) n1 n2 h.d3 n3 n4 n5 (.int .i64 z.st) (.int .i64 z.code) (.str z.miss) (.int .i64 m.steps)
 rw [List.append_nil] at e
 refine ⟨⟨B.objs, bs⟩, ?_, rfl, fun t ht hn => k t ht fun n => ⟨fun q => (by cases q), fun q => hn ⟨_, hc, n, by simp [mcell, q]⟩, fun q => hn ⟨_, hc, n, by simp [mcell, q]⟩, fun q => (by cases q)⟩⟩
 unfold mcell at hc
 have o1 := ownS_one h.out
 have o2 := ownS_one h.rd
 have o3 := ownS_one h.wr
 rw [k_call (c := C) (f := 48) rfl Tryz.func48 rfl (ok 48 (by kernel_rfl)) rfl Tryz.ntmps48 Tryz.results48 (by simp)]
 simp (maxSteps := 1000000) only [go_sem, acondK_bool, k_drawn_t, hc, Stp.av, o1, o2, o3]
 refine Eq.trans (ctE_ok (by repeat (first | exact MLe.nil | apply MLe.qq | apply MLe.q | apply MLe.o | apply MLe.b | apply MLe.l)) (by kernel_rfl)) ?_
 simp (maxSteps := 1000000) only [go_sem, acondK_bool, e, effAV, o2, o3]
def putsR (own : List (Bytes × Vl)) (l : List Bytes) : List (List Dat) := l.map fun k => Kv.row ⟨k, (lookE own k).getD zeroV⟩
theorem putsR_all (own : List (Bytes × Vl)) (l : List Bytes) : (putsR own l).all (fun r => r.length == 4) = true := by
 simp [putsR, Kv.row]
theorem nm_len {A : AHeap} {v : AV} {l : List Bytes} (h : ownS A.bufs v 9 1 (srow l)) : alen A 2 v = some l.length := by
 rcases h with ⟨rfl, h0⟩ | ⟨t, rfl, hb⟩
 ·have : l = [] := by simpa [srow] using h0
  subst this; rfl
 ·simp only [alen, hb]
  simp [srow]
theorem grow_parts {A : AHeap} {e sz : Nat} {rows : List (List Dat)} {W : AV} {D : AHeap} (h : agrow A e sz rows = (W, D)) : W.one = true ∧ D.objs = A.objs ∧ (∃ ext, D.bufs = A.bufs ++ ext) ∧ ownS D.bufs W e sz rows ∧ ∀ t n, W = .own t n → A.bufs.length ≤ t := by
 unfold agrow at h
 split at h
 ·rename_i h0
  cases h
  exact ⟨rfl, rfl, ⟨[], by simp⟩, .inl ⟨rfl, h0⟩, fun t n e => (by cases e)⟩
 ·cases h
  exact ⟨rfl, rfl, ⟨_, rfl⟩, .inr ⟨_, rfl, by simp⟩, fun t n e => (by cases e; exact Nat.le_refl _)⟩
theorem ownS_cells {bs : List ABuf} {v : AV} {e sz : Nat} {r : List (List Dat)} (h : ownS bs v e sz r) : v.cells = [v] := by
 rcases h with ⟨rfl, _⟩ | ⟨t, rfl, _⟩ <;> rfl
theorem ownS_app {bs ext : List ABuf} {v : AV} {e sz : Nat} {r : List (List Dat)} (h : ownS bs v e sz r) : ownS (bs ++ ext) v e sz r := by
 rcases h with h | ⟨t, rfl, hb⟩
 ·exact .inl h
 ·exact .inr ⟨t, rfl, by rw [List.getElem?_append_left (List.getElem?_eq_some_iff.1 hb).1]; exact hb⟩
theorem ownS_lt {bs : List ABuf} {v : AV} {e sz : Nat} {r : List (List Dat)} (h : ownS bs v e sz r) {t n : Nat} (hv : v = .own t n) : t < bs.length := by
 rcases h with ⟨h, _⟩ | ⟨t', h, hb⟩
 ·rw [hv] at h; cases h
 ·rw [hv] at h; cases h; exact (List.getElem?_eq_some_iff.1 hb).1
theorem finishC {B : AHeap} {x : Ids} {m : Mc} (hS : HS B x m) (hw : m.writes.length ≤ 4194304) : ∃ B', acl C 48 [.ptr x.m 0, (⟨0, 0, []⟩ : Stp).av, .d (.bool false)] B = some (effAV 1 0 (m.out.map Vl.row) (srow m.reads) (srow m.writes) (putsR m.own m.writes) [] m.steps, B') ∧ Rest4 B B' x := by
 obtain ⟨ov, rv, wv, h⟩ := hS
 have hc := h.cell
 have hl := nm_len h.wr
 have o1 := ownS_one h.out
 have o2 := ownS_one h.rd
 have o3 := ownS_one h.wr
 -- the end
 obtain ⟨WF, DF, hF⟩ : ∃ W D, agrow B 71 4 (putsR m.own m.writes) = (W, D) := ⟨_, _, rfl⟩
 obtain ⟨f1, f2, ⟨ext, f3⟩, f4, f5⟩ := grow_parts hF
 have hDF : DF = ⟨B.objs, B.bufs ++ ext⟩ := by
  cases DF; simp only at f2 f3; rw [f2, f3]
 have fr : ∀ v : AV, ∀ e sz r, ownS B.bufs v e sz r → tokF v WF := fun v e sz r hv t n t' n' h1 h2 ht => by
  have := ownS_lt hv h1
  have := f5 t' n' h2
  omega
 rw [f3] at f4
 obtain ⟨bs, e, k⟩ := fin_eff (f := 48) rfl (B := B) (ext := ext) (O := ov) (R := rv) (V := wv) (W := WF) (.inr ⟨_, _, ownS_app h.out⟩) (.inr ⟨_, _, ownS_app h.rd⟩) (.inr ⟨_, _, ownS_app h.wr⟩) (.inr ⟨_, _, f4⟩) h.d1 h.d2 h.d3 (fr _ _ _ _ h.out) (fr _ _ _ _ h.rd) (fr _ _ _ _ h.wr) (.int .i64 1) (.int .i64 0) (.str []) (.int .i64 m.steps)
 rw [← hDF] at e
 refine ⟨⟨B.objs, bs⟩, ?_, rfl, fun t ht hn => k t ht fun n => ⟨fun q => hn ⟨_, hc, n, by simp [mcell, q]⟩, fun q => hn ⟨_, hc, n, by simp [mcell, q]⟩, fun q => hn ⟨_, hc, n, by simp [mcell, q]⟩, fun q => by have := f5 t n q; omega⟩⟩
 unfold mcell at hc
 rw [k_call (c := C) (f := 48) rfl Tryz.func48 rfl (ok 48 (by kernel_rfl)) rfl Tryz.ntmps48 Tryz.results48 (by simp)]
 simp (maxSteps := 1000000) only [go_sem, acondK_bool, hc, o1, o2, o3, hl, Stp.av]
 refine loop_any (fun pre => [(27, .v (.d (.int .i64 (pre.length : Nat)))), (7, .box [.d (.int .i64 1), .d (.int .i64 0), ov, rv, wv, (agrow B 71 4 (putsR m.own pre)).1, .d (.str []), .d (.int .i64 m.steps)]), (0, .v (.ptr x.m 0)), (25, .v wv), (6, .box [.d (.int .i64 0), .d (.int .i64 0), .nilS, .nilS, .nilS, .nilS, .d (.str []), .d (.int .i64 0)]), (26, .v (.d (.int .i64 (m.writes.length : Nat))))])
  (fun pre => (agrow B 71 4 (putsR m.own pre)).2) (fun _ _ => some (effAV 1 0 (m.out.map Vl.row) (srow m.reads) (srow m.writes) (putsR m.own m.writes) [] m.steps, ⟨B.objs, bs⟩)) m.writes rfl rfl rfl ?_
 intro pre suf hps ih
 have hb : pre.length < 9223372036854775807 := by rw [hps] at hw; simp at hw; omega
 obtain ⟨W, D, hWD⟩ : ∃ W D, agrow B 71 4 (putsR m.own pre) = (W, D) := ⟨_, _, rfl⟩
 obtain ⟨g1, g2, ⟨ext', g3⟩, g4, g5⟩ := grow_parts hWD
 cases suf with
 | nil =>
   rw [List.append_nil] at hps
   have e4 : decide ((pre.length : Int) < (m.writes.length : Int)) = false := by rw [hps]; simp
   rw [← hps] at hWD
   rw [hF] at hWD
   cases hWD
   simp only [hps ▸ hF]
   simp (maxSteps := 1000000) only [go_sem, acondK_bool, e4, e, effAV, o1, o2, o3, f1]
 | cons w suf =>
   have e2 := ih w suf rfl
   rw [List.length_append, List.length_cons, List.length_nil] at e2
   have e4 : decide ((pre.length : Int) < (m.writes.length : Int)) = true := by rw [hps]; simp; omega
   have hlt : pre.length < m.writes.length := by rw [hps]; simp
   rcases h.wr with ⟨_, h0⟩ | ⟨tok, hwv, hbt⟩
   ·have : m.writes = [] := by simpa [srow] using h0
    rw [this] at hlt; simp at hlt
   have hsl : (srow m.writes).length = m.writes.length := by simp [srow]
   rw [hsl] at hwv
   have hbD : D.bufs[tok]? = some ⟨9, 1, srow m.writes, 0⟩ := by rw [g3, List.getElem?_append_left (List.getElem?_eq_some_iff.1 hbt).1]; exact hbt
   have hkw : m.writes.getD pre.length [] = w := by rw [hps]; simp
   have ld := own_ld (i := pre.length) hbD hlt
   rw [hkw] at ld
   have ix := own_idx (i := pre.length) hbD hlt
   have hcD : D.objs[x.m]? = B.objs[x.m]? := by rw [g2]
   rw [hc] at hcD
   have hoD : D.objs[x.o]? = some (.map (mapE m.own)) := by rw [g2]; exact h.own
   have fo := afind_mapE w m.own
   have ga := agrow_append (P := Tryz.prog) (A := B) (ty := 71) (sz := 4) (rows := putsR m.own pre) (src := putsR m.own [w]) room_71_4 (putsR_all _ _) (by rw [hps] at hw; simp [putsR] at hw ⊢; omega)
   have hpp : putsR m.own pre ++ putsR m.own [w] = putsR m.own (pre ++ [w]) := by simp [putsR]
   rw [hpp] at ga
   rw [hWD] at ga
   obtain ⟨W', D', hWD'⟩ : ∃ W D, agrow B 71 4 (putsR m.own (pre ++ [w])) = (W, D) := ⟨_, _, rfl⟩
   rw [hWD'] at ga e2
   have g1' := (grow_parts hWD').1
   have gc' := ownS_cells (grow_parts hWD').2.2.2.1
   subst hwv
   simp only [hWD]
   simp only [putsR, List.map_cons, List.map_nil, Kv.row] at ga
   cases hfo : lookE m.own w with
   | none =>
     rw [hfo] at fo ga
     simp only [Option.map_none, Option.getD_none, zeroV] at fo ga
     simp (maxSteps := 1000000) only [go_sem, acondK_bool, k_drawn_t, e4, ix, ld, hcD, hoD, fo, ga, g1, g1', gc', o1, o2, wrap_nat hb]
     refine Eq.trans (ctE_ok (by repeat (first | exact MLe.nil | apply MLe.qq | apply MLe.q | apply MLe.o | apply MLe.b | apply MLe.l)) (by kernel_rfl)) ?_
     simp (maxSteps := 1000000) only [go_sem, acondK_bool, e2, wrap_nat hb]
   | some v =>
     rw [hfo] at fo ga
     simp only [Option.map_some, Option.getD_some, Vl.av] at fo ga
     simp (maxSteps := 1000000) only [go_sem, acondK_bool, k_drawn_t, e4, ix, ld, hcD, hoD, fo, ga, g1, g1', gc', o1, o2, wrap_nat hb]
     refine Eq.trans (ctE_ok (by repeat (first | exact MLe.nil | apply MLe.qq | apply MLe.q | apply MLe.o | apply MLe.b | apply MLe.l)) (by kernel_rfl)) ?_
     simp (maxSteps := 1000000) only [go_sem, acondK_bool, e2, wrap_nat hb]
end Go.Proofs.YtpbdjgdmhfibmaaGreatDoor
set_option linter.all false
namespace Go.Proofs.YtpbdjgdmhfibmaaGreatDoor
open Go.Abs
attribute [local congr] ite_congr
set_option maxRecDepth 10000
def dupR (pre : List Bytes) : List Bytes → Bool
 | [] => false
 | x :: l => (pre.any fun y => y == x) || dupR (pre ++ [x]) l
end Go.Proofs.YtpbdjgdmhfibmaaGreatDoor
set_option linter.all false
namespace Go.Proofs.YtpbdjgdmhfibmaaGreatDoor
open Go.Abs
theorem ss_put (m : List Bytes) (k j : Bytes) : SS.has (SS.put m k) j = ((j == k) || SS.has m j) := by
 induction m with
 | nil => simp [SS.put, SS.has]
 | cons i m ih =>
   simp only [SS.put]
   by_cases h : (k == i) = true
   ·have : k = i := by simpa using h
    subst this
    rw [if_pos h]
    simp [SS.has]
   ·rw [if_neg h]
    unfold SS.has at ih ⊢
    rw [List.any_cons, ih, List.any_cons]
    cases (j == i) <;> cases (j == k) <;> simp
theorem met_has (l : List Bytes) : ∀ (m : List Bytes) (x : Bytes), SS.has (metL m l) x = (SS.has m x || l.any fun y => y == x) := by
 induction l with
 | nil => intro m x; simp [metL]
 | cons y l ih =>
   intro m x
   rw [metL, ih, ss_put, List.any_cons, Bool.beq_comm (a := y)]
   cases SS.has m x <;> cases (x == y) <;> simp
theorem dup_eq : ∀ (l pre : List Bytes), dupF (metL [] pre) l = dupR pre l
 | [], _ => rfl
 | x :: l, pre => by
   have ih := dup_eq l (pre ++ [x])
   rw [metL_snoc] at ih
   simp only [dupF, dupR]
   rw [ih, met_has]
   rfl
def uniq (m : NM) : Prop := (m.map Prod.fst).Nodup
structure Link (s : CkS) (vars : List Pm) (loops : List Bytes) (T : List Pm) : Prop where
 l1 : ∀ k, s.vis.get k = getP vars k
 l1t : ∀ k t, getP vars k = some t → 1 ≤ t ∧ t ≤ 3
 l2 : ∀ k t, getP vars k = some t → SS.has s.loops k = loops.any fun j => j == k
 l3a : ∀ k t, getP vars k = some t → getP T k = some t
 l3b : ∀ k, SS.has s.loops k = true → k ∈ T.map Pm.name
 l3c : ∀ k, (loops.any fun j => j == k) = true → k ∈ T.map Pm.name
 l4 : ∀ k, s.all.get k = getP T k
 u : uniq s.vis
end Go.Proofs.YtpbdjgdmhfibmaaGreatDoor
set_option linter.all false
namespace Go.Proofs.YtpbdjgdmhfibmaaGreatDoor
open Go.Abs
attribute [local congr] ite_congr
set_option maxRecDepth 10000
theorem opsE_vis : ∀ (e : E) (r : Bool), (opsE e).length = (visE e r).length
 | .mk op n s args, r => by
   have := opsEs_vis args
   simp only [opsE, visE, List.length_cons, this]
where opsEs_vis : ∀ (l : List E), (opsEs l).length = (visEs l).length
 | [] => rfl
 | x :: l => by
   simp only [opsEs, visEs, List.length_append, opsE_vis x false, opsEs_vis l]
theorem opsEs_le (n : Nat) : ∀ (l : List E), (∀ e ∈ l, (opsE e).length ≤ n) → (opsEs l).length ≤ n * l.length
 | [], _ => by simp [opsEs]
 | x :: l, h => by
   have h1 := h x (List.mem_cons_self ..)
   have h2 := opsEs_le n l (fun e he => h e (List.mem_cons_of_mem _ he))
   simp only [opsEs, List.length_append, List.length_cons, Nat.mul_add]
   omega
theorem few_ops (p : Pr) (h : valS p = 0) : (opsEs (exprsS p)).length ≤ 160400 := by
 have V := (valS_zero p).1 h
 have h1 := opsEs_le 400 (exprsS p) fun e he => by rw [opsE_vis e true]; exact (V.roots e he).2
 have h2 := exprsS_len p
 have := Nat.mul_le_mul_left 400 h2
 omega
theorem checkOfG (p : Pr) (hp : p.Ok) (A : AHeap) : acl C 17 [Pr.av p] A = some (.d (.int .i64 (chkS p)), A) := by
 by_cases h : valS p = 0
 ·exact checkOf p hp (by have := ((prmS_zero3 _).1 ((valS_zero p).1 h).prm).1.2; omega) A
 ·have v1 := validate p hp
  have h1 : decide (valS p = 0) = false := by simpa using h
  have f0 : ∀ n, afinR C 34 A A (some (.tuple [.nilM, .d (.int .i64 n)])) = some (.tuple [.nilM, .d (.int .i64 n)], A) :=
   fun n => afinR_still (c := C) (f := 34) (v := .tuple [.nilM, .d (.int .i64 n)]) rfl rfl
  have h2 : preErr p = valS p := by unfold preErr; rw [if_neg (by rw [h1]; decide)]
  have h3 : decide (preErr p = 0) = false := by rw [h2]; exact h1
  have c1 : acl C 34 [Pr.av p] A = some (.tuple [.nilM, .d (.int .i64 (preErr p))], A) := by
   rw [k_call (c := C) (f := 34) rfl Tryz.func34 rfl (ok 34 (by kernel_rfl)) rfl Tryz.ntmps34 Tryz.results34 (by simp)]
   rw [h2]
   simp (maxSteps := 1000000) only [go_sem, acondK_bool, v1, h1, f0]
  rw [k_call (c := C) (f := 17) rfl Tryz.func17 rfl (ok 17 (by kernel_rfl)) rfl Tryz.ntmps17 Tryz.results17 (by simp)]
  unfold chkS
  rw [h3, if_neg (by decide)]
  simp (maxSteps := 1000000) only [go_sem, acondK_bool, c1]
def detS (p : Pr) : Int := if decide (chkS p = 0) = true then (if (fstP p).2.2 = true then 12 else 0) else chkS p
structure K where
 s : Int
 g : Int
 p : Int
 e : Int
abbrev K.av (k : K) : AV := .agg [.d (.int .i64 k.s), .d (.int .i64 k.g), .d (.int .i64 k.p), .d (.int .i64 k.e)]
def cut (n : Int) : Int := if 16385 < n then 16385 else n
def mx (a b : Int) : Int := if b > a then b else a
def K.plus (a b : K) : K := ⟨cut (a.s + b.s), cut (a.g + b.g), cut (a.p + b.p), cut (a.e + b.e)⟩
def K.times (a : K) (n : Int) : K := ⟨cut (a.s * n), cut (a.g * n), cut (a.p * n), cut (a.e * n)⟩
def K.larger (a b : K) : K := ⟨mx a.s b.s, mx a.g b.g, mx a.p b.p, mx a.e b.e⟩
structure K.Ok (a : K) : Prop where
 s : 0 ≤ a.s ∧ a.s ≤ 100000
 g : 0 ≤ a.g ∧ a.g ≤ 100000
 p : 0 ≤ a.p ∧ a.p ≤ 100000
 e : 0 ≤ a.e ∧ a.e ≤ 100000
theorem cut_ok {n : Int} (h : 0 ≤ n) : 0 ≤ cut n ∧ cut n ≤ 100000 := by unfold cut; split <;> omega
theorem wadd {a b : Int} (ha : 0 ≤ a ∧ a ≤ 100000) (hb : 0 ≤ b ∧ b ≤ 100000) : IntKind.i64.wrap (a + b) = a + b := by rw [wrap_in] <;> omega
theorem wmul {a n : Int} (ha : 0 ≤ a ∧ a ≤ 100000) (hn : 0 ≤ n ∧ n ≤ 1000) : IntKind.i64.wrap (a * n) = a * n := by
 have h1 := Int.mul_nonneg ha.1 hn.1
 have h2 : a * n ≤ 100000 * 1000 := Int.mul_le_mul ha.2 hn.2 hn.1 (by decide)
 rw [wrap_in] <;> omega
def aplK (A : AHeap) (n : Nat) (p : Option (Nat × Nat)) : Option (Slot × AHeap) := match p with
 | some (s, o) => some (.place s (o + n), A)
 | none => none
@[go_sem] theorem aplK_some {A : AHeap} {n s o : Nat} : aplK A n (some (s, o)) = some (.place s (o + n), A) := by rfl
theorem ixK (c : ACtx) (hc : c.P = Tryz.prog) {env : AEnv} {A : AHeap} {x : Operand} {k : IntKind} (n : Nat) (hn : n < 4) : aindexK c env A 147 x (some (.d (.int k (n : Int)))) = aplK A n (aplace env x) := by
 rw [aindexK_array (h := by rw [hc]; exact arr_147)]
 unfold aindexP aplK
 cases aplace env x with
 | none => rfl
 | some p =>
   simp only
   rw [if_pos (by omega)]
   simp
section
variable {env : AEnv} {A : AHeap} {x : Operand} {k : IntKind}
@[go_sem] theorem ix0 : aindexK C env A 147 x (some (.d (.int k 0))) = aplK A 0 (aplace env x) := ixK C rfl 0 (by decide)
@[go_sem] theorem ix1 : aindexK C env A 147 x (some (.d (.int k 1))) = aplK A 1 (aplace env x) := ixK C rfl 1 (by decide)
@[go_sem] theorem ix2 : aindexK C env A 147 x (some (.d (.int k 2))) = aplK A 2 (aplace env x) := ixK C rfl 2 (by decide)
@[go_sem] theorem ix3 : aindexK C env A 147 x (some (.d (.int k 3))) = aplK A 3 (aplace env x) := ixK C rfl 3 (by decide)
@[go_sem] theorem iy0 : aindexK C.noesc env A 147 x (some (.d (.int k 0))) = aplK A 0 (aplace env x) := ixK C.noesc rfl 0 (by decide)
@[go_sem] theorem iy1 : aindexK C.noesc env A 147 x (some (.d (.int k 1))) = aplK A 1 (aplace env x) := ixK C.noesc rfl 1 (by decide)
@[go_sem] theorem iy2 : aindexK C.noesc env A 147 x (some (.d (.int k 2))) = aplK A 2 (aplace env x) := ixK C.noesc rfl 2 (by decide)
@[go_sem] theorem iy3 : aindexK C.noesc env A 147 x (some (.d (.int k 3))) = aplK A 3 (aplace env x) := ixK C.noesc rfl 3 (by decide)
end
@[go_sem] theorem wl1 : IntKind.i64.wrap 1 = 1 := by decide
@[go_sem] theorem wl2 : IntKind.i64.wrap 2 = 2 := by decide
@[go_sem] theorem wl3 : IntKind.i64.wrap 3 = 3 := by decide
@[go_sem] theorem wl4 : IntKind.i64.wrap 4 = 4 := by decide
theorem plusP (a b : K) (ha : a.Ok) (hb : b.Ok) (A : AHeap) : acl C 118 [a.av, b.av] A = some ((a.plus b).av, A) := by
 have w1 := wadd ha.s hb.s
 have w2 := wadd ha.g hb.g
 have w3 := wadd ha.p hb.p
 have w4 := wadd ha.e hb.e
 have q : ∀ n, (if 16385 < n then (16385 : Int) else n) = cut n := fun _ => rfl
 rw [k_call (c := C) (f := 118) rfl Tryz.func118 rfl (ok 118 (by kernel_rfl)) rfl Tryz.ntmps118 Tryz.results118 (by simp)]
 simp (maxSteps := 1000000) only [go_sem, acondK_bool, k_drawn_t, w1, w2, w3, w4, q]
 iterate 4
  rw [unroll]
  simp (maxSteps := 1000000) only [go_sem, acondK_bool, k_drawn_t, w1, w2, w3, w4, q]
  refine Eq.trans (ctE_ok (by repeat (first | exact MLe.nil | apply MLe.qq | apply MLe.q | apply MLe.o | apply MLe.b | apply MLe.l)) (by kernel_rfl)) ?_
  simp (maxSteps := 1000000) only [go_sem, acondK_bool, k_drawn_t, w1, w2, w3, w4, q]
 rw [unroll]
 simp (maxSteps := 1000000) only [go_sem, acondK_bool, k_drawn_t, w1, w2, w3, w4, q]
 rfl
theorem timesP (a : K) (n : Int) (ha : a.Ok) (hn : 0 ≤ n ∧ n ≤ 1000) (A : AHeap) : acl C 164 [a.av, .d (.int .i64 n)] A = some ((a.times n).av, A) := by
 have w1 := wmul ha.s hn
 have w2 := wmul ha.g hn
 have w3 := wmul ha.p hn
 have w4 := wmul ha.e hn
 have q : ∀ n, (if 16385 < n then (16385 : Int) else n) = cut n := fun _ => rfl
 rw [k_call (c := C) (f := 164) rfl Tryz.func164 rfl (ok 164 (by kernel_rfl)) rfl Tryz.ntmps164 Tryz.results164 (by simp)]
 simp (maxSteps := 1000000) only [go_sem, acondK_bool, k_drawn_t, w1, w2, w3, w4, q]
 iterate 4
  rw [unroll]
  simp (maxSteps := 1000000) only [go_sem, acondK_bool, k_drawn_t, w1, w2, w3, w4, q]
 rw [unroll]
 simp (maxSteps := 1000000) only [go_sem, acondK_bool, k_drawn_t, w1, w2, w3, w4, q]
 rfl
theorem largerP (a b : K) (A : AHeap) : acl C 163 [a.av, b.av] A = some ((a.larger b).av, A) := by
 have q : ∀ a b : Int, (if b > a then b else a) = mx a b := fun _ _ => rfl
 rw [k_call (c := C) (f := 163) rfl Tryz.func163 rfl (ok 163 (by kernel_rfl)) rfl Tryz.ntmps163 Tryz.results163 (by simp)]
 simp (maxSteps := 1000000) only [go_sem, acondK_bool, k_drawn_t, q]
 iterate 4
  rw [unroll]
  simp (maxSteps := 1000000) only [go_sem, acondK_bool, k_drawn_t, q]
  refine Eq.trans (ctE_ok (by repeat (first | exact MLe.nil | apply MLe.qq | apply MLe.q | apply MLe.o | apply MLe.b | apply MLe.l)) (by kernel_rfl)) ?_
  simp (maxSteps := 1000000) only [go_sem, acondK_bool, k_drawn_t, q]
 rw [unroll]
 simp (maxSteps := 1000000) only [go_sem, acondK_bool, k_drawn_t, q]
 rfl
end Go.Proofs.YtpbdjgdmhfibmaaGreatDoor
set_option linter.all false
namespace Go.Proofs.YtpbdjgdmhfibmaaGreatDoor
open Go.Abs
attribute [local congr] ite_congr
set_option maxRecDepth 10000
mutual
def tE : E → Int
 | .mk op _ _ args => (if rdS op = true then 1 else 0) + tEs args
def tEs : List E → Int
 | [] => 0
 | x :: l => tE x + tEs l
end
mutual
theorem tE_nn : ∀ e, 0 ≤ tE e
 | .mk op n s args => by
   have := tEs_nn args
   simp only [tE]
   split <;> omega
theorem tEs_nn : ∀ l, 0 ≤ tEs l
 | [] => by simp [tEs]
 | x :: l => by
   have := tE_nn x
   have := tEs_nn l
   simp only [tEs]
   omega
end
theorem cut_cut {a b : Int} (hb : 0 ≤ b) (ha : 0 ≤ a) : cut (a + cut b) = cut (a + b) := by unfold cut; repeat' split <;> omega
theorem cut_cut2 {a b : Int} (hb : 0 ≤ b) (ha : 0 ≤ a) : cut (cut a + cut b) = cut (a + b) := by unfold cut; repeat' split <;> omega
theorem cut_nn {a : Int} (h : 0 ≤ a) : 0 ≤ cut a := (cut_ok h).1
theorem cut_mx {a b : Int} (ha : 0 ≤ a) (hb : 0 ≤ b) : mx (cut a) (cut b) = cut (mx a b) := by unfold cut mx; repeat' split <;> omega
theorem cut_mul {a n : Int} (ha : 0 ≤ a) (hn : 0 ≤ n) : cut (cut a * n) = cut (a * n) := by
 by_cases h : 16385 < a
 ·have h1 : cut a = 16385 := by unfold cut; rw [if_pos h]
  rw [h1]
  rcases Int.lt_or_le n 1 with h2 | h2
  ·obtain rfl : n = 0 := by omega
   simp
  ·have h3 : 16385 * n ≤ a * n := Int.mul_le_mul_of_nonneg_right (by omega) hn
   have h4 : 16385 * 1 ≤ 16385 * n := Int.mul_le_mul_of_nonneg_left h2 (by decide)
   have h5 : a * 1 ≤ a * n := Int.mul_le_mul_of_nonneg_left h2 ha
   unfold cut
   rw [if_pos (show 16385 < a * n by omega)]
   split <;> omega
 ·have h1 : cut a = a := by unfold cut; rw [if_neg h]
  rw [h1]
def cEs : List E → Int
 | [] => 0
 | x :: l => cut (tE x) + cEs l
theorem cEs_snoc : ∀ (l : List E) (x : E), cEs (l ++ [x]) = cEs l + cut (tE x)
 | [], x => by simp [cEs]
 | y :: l, x => by simp only [List.cons_append, cEs, cEs_snoc l x]; omega
theorem cEs_bound : ∀ (l : List E), 0 ≤ cEs l ∧ cEs l ≤ 16385 * l.length
 | [] => by simp [cEs]
 | x :: l => by
   have h1 := cEs_bound l
   have h2 : 0 ≤ cut (tE x) ∧ cut (tE x) ≤ 16385 := by
    have := tE_nn x
    unfold cut; split <;> omega
   simp only [cEs, List.length_cons]
   push_cast
   omega
theorem cut_cEs : ∀ (l : List E) (o : Int), 0 ≤ o → cut (o + cEs l) = cut (o + tEs l)
 | [], o, _ => rfl
 | x :: l, o, ho => by
   have h1 := tE_nn x
   have h2 := tEs_nn l
   have h3 := (cEs_bound l).1
   simp only [cEs, tEs]
   rw [show o + (cut (tE x) + cEs l) = (o + cut (tE x)) + cEs l by omega, cut_cEs l _ (by have := cut_nn h1; omega),
    show o + cut (tE x) + tEs l = (o + tEs l) + cut (tE x) by omega, cut_cut h1 (by omega)]
   congr 1
   omega
theorem cut_eq (n : Int) : (if 16385 < n then (16385 : Int) else n) = cut n := rfl
theorem readsC : ∀ e, E.Ok e → ∀ (A : AHeap), acl C 162 [E.av e] A = some (.d (.int .i64 (cut (tE e))), A) := by
 intro e
 induction e using E.ind with
 | h op n s args ih =>
   intro hok A
   have hlen := hok.fit
   obtain ⟨o, ho⟩ : ∃ o : Int, o = if rdS op = true then 1 else 0 := ⟨_, rfl⟩
   have ho2 : 0 ≤ o ∧ o ≤ 1 := by rw [ho]; split <;> omega
   have key : ∀ (r : Option (AV × AHeap)), r = some (.d (.int .i64 (cut (o + cEs args))), A) → r = some (.d (.int .i64 (cut (tE (.mk op n s args)))), A) := by
    intro r hr
    rw [hr, cut_cEs args o ho2.1, tE, ← ho]
   apply key
   have loopq : ∀ (F : AF) (ks : List KF) (body : Code), F = ⟨C, 162, 26, [.tmp 2], A⟩ → True := fun _ _ _ _ => trivial
   rw [k_call (c := C) (f := 162) rfl Tryz.func162 rfl (ok 162 (by kernel_rfl)) rfl Tryz.ntmps162 Tryz.results162 (by simp)]
   unfold rdS at ho
   cases h1 : decide (op = 22) <;> cases h2 : decide (op = 23) <;> cases h3 : decide (op = 24) <;> rw [h1, h2, h3] at ho <;> simp only [Bool.or_false, Bool.or_true, Bool.or_self, Bool.false_eq_true, if_true, if_false] at ho <;> subst ho <;> simp (maxSteps := 1000000) only [go_sem, acondK_bool, h1, h2, h3]
   all_goals
    refine loop_any (fun pre => [(3, .v (.d (.int .i64 (_ + cEs pre)))), (15, .v (.d (.int .i64 (pre.length : Nat)))), (13, .v (.d (.slice (args.map E.row)))), (14, .v (.d (.int .i64 (args.length : Nat))))])
     (fun _ => A) (fun _ _ => some (.d (.int .i64 (cut (_ + cEs args))), A)) args (by simp only [cEs, Int.add_zero]; rfl) rfl rfl ?_
   all_goals
    intro pre suf hl ih2
    have hb : pre.length < 9223372036854775807 := by rw [hl] at hlen; simp at hlen; omega
    cases suf with
    | nil =>
      rw [List.append_nil] at hl
      subst hl
      have e4 : decide ((args.length : Int) < (args.length : Int)) = false := by simp
      simp (maxSteps := 1000000) only [go_sem, acondK_bool, e4, cut_eq]
    | cons x suf =>
      have hx : x ∈ args := by rw [hl]; simp
      have e1 := ih x hx (hok.arg x hx) A
      have e2 := ih2 x suf rfl
      rw [List.length_append, List.length_cons, List.length_nil, cEs_snoc, ← Int.add_assoc] at e2
      have e3 : (args.map E.row)[pre.length]? = some (E.row x) := by rw [hl]; exact map_mid
      have e4 : decide ((pre.length : Int) < (args.length : Int)) = true := by rw [hl]; simp; omega
      rw [E.row_eq] at e3
      have c1 := cEs_bound pre
      have c2 : 0 ≤ cut (tE x) ∧ cut (tE x) ≤ 16385 := by
       have := tE_nn x
       unfold cut; split <;> omega
      have hpl : pre.length ≤ 4194303 := by rw [hl] at hlen; simp at hlen; omega
      have w0 : IntKind.i64.wrap (0 + cEs pre + cut (tE x)) = 0 + cEs pre + cut (tE x) := by rw [wrap_in] <;> omega
      have w1 : IntKind.i64.wrap (1 + cEs pre + cut (tE x)) = 1 + cEs pre + cut (tE x) := by rw [wrap_in] <;> omega
      simp (maxSteps := 1000000) only [go_sem, acondK_bool, e3, e4, e1, e2, w0, w1, wrap_nat hb]
end Go.Proofs.YtpbdjgdmhfibmaaGreatDoor
