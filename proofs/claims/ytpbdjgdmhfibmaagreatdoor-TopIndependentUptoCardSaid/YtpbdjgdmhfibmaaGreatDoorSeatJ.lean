/- Footprints: ascending, valid, in conflict. -/
import Derived.Test.YtpbdjgdmhfibmaaGreatDoorSeatI
import Derived.Test.YtpbdjgdmhfibmaaGreatDoorSeatG
import Derived.Test.YtpbdjgdmhfibmaaGreatDoorSeatD
set_option linter.all false
namespace Go.Proofs.YtpbdjgdmhfibmaaGreatDoor
open Go.Abs
attribute [local congr] ite_congr
set_option maxRecDepth 100000
def ascS : Option Bytes → List Bytes → Bool
 | _, [] => true
 | p, k :: l => keyV k && ((match p with
   | none => true
   | some q => Op.bytesLess q k) && ascS (some k) l)
def ascV (l : List Bytes) : Bool := ascS none l && decide (l.length ≤ 64)
theorem ascIP (l : List Bytes) (A : AHeap) (hl : l.length ≤ 1099511627776) (hk : ∀ k ∈ l, k.length ≤ 1099511627776) : acl C 86 [.d (.slice (srow l))] A = some (.d (.bool (ascV l)), A) := by
 have hlen : (srow l).length = l.length := by simp [srow]
 rw [kC Tryz.func86 rfl Tryz.ntmps86 Tryz.results86]
 simp only [go_sem, acondK_bool, hlen]
 refine loop_any (fun pre => [(6, .v (.d (.int .i64 (l.length : Nat)))), (5, .v (.d (.slice (srow l)))), (0, .v (.d (.slice (srow l)))), (7, .v (.d (.int .i64 (pre.length : Nat))))])
  (fun _ => A) (fun pre suf => some (.d (.bool (ascS pre.getLast? suf && decide (l.length ≤ 64))), A)) l rfl rfl rfl ?_
 intro pre suf h ih
 have hb : pre.length < 9223372036854775807 := by rw [h] at hl; simp at hl; omega
 cases suf with
 | nil =>
   have e4 : decide ((pre.length : Int) < (l.length : Int)) = false := by rw [h]; simp
   have e5 : decide ((l.length : Int) ≤ 64) = decide (l.length ≤ 64) := by
    by_cases h6 : l.length ≤ 64
    ·rw [decide_eq_true h6, decide_eq_true (by omega)]
    ·rw [decide_eq_false h6, decide_eq_false (by omega)]
   simp only [go_sem, acondK_bool, e4, ascS, e5, hlen]
 | cons x suf =>
   have e2 := ih x suf rfl
   rw [List.length_append, List.length_cons, List.length_nil] at e2
   simp only [List.getLast?_append, List.getLast?_singleton, Option.some_or] at e2
   have e3 : (srow l)[pre.length]? = some [.str x] := by rw [h]; exact map_mid
   have e4 : decide ((pre.length : Int) < (l.length : Int)) = true := by rw [h]; simp; omega
   have k1 := keyVP x A (hk x (by rw [h]; simp))
   simp only [ascS]
   cases h1 : keyV x with
   | false =>
     rw [h1] at k1
     simp only [go_sem, acondK_bool, e3, e4, k1, k_drawn_q]
   | true =>
   rw [h1] at k1
   rcases List.eq_nil_or_concat pre with rfl | ⟨pre', q, rfl⟩
   ·rw [show ((([] : List Bytes).length + (0 + 1) : Nat) : Int) = 1 from rfl] at e2
    have w1 : IntKind.i64.wrap 1 = 1 := by decide
    have e4 : decide ((0 : Int) < (l.length : Nat)) = true := e4
    simp only [List.length_nil, Nat.zero_add, List.getLast?_nil] at e2 e3 e4 ⊢
    simp only [go_sem, acondK_bool, e2, e3, e4, k1, k_drawn_q, w1]
   ·have e6 : (srow l)[pre'.length]? = some [.str q] := by rw [h, List.concat_eq_append, List.append_assoc]; exact map_mid
    have e7 : IntKind.i64.wrap (((pre'.concat q).length : Int) - 1) = (pre'.length : Nat) := by
     have e0 : ((pre'.concat q).length : Int) - 1 = (pre'.length : Nat) := by simp
     rw [List.length_concat] at hb
     rw [e0]
     exact wrap_in (by omega) (by omega)
    have e8 : decide ((0 : Int) < ((pre'.concat q).length : Nat)) = true := by rw [List.length_concat]; exact decide_eq_true (by omega)
    have e9 : (pre'.concat q).getLast? = some q := by simp
    rw [e9]
    simp only
    cases h3 : Op.bytesLess q x with
    | true => simp only [go_sem, acondK_bool, e2, e3, e4, e6, e7, e8, k1, h3, geqF, leqF, k_drawn_q, wrap_nat hb]
    | false => simp only [go_sem, acondK_bool, e3, e4, e6, e7, e8, k1, h3, geqF, leqF, k_drawn_q]
theorem ascFP (l : List Bytes) (A : AHeap) (hl : l.length ≤ 1099511627776) (hk : ∀ k ∈ l, k.length ≤ 1099511627776) : acl C 52 [.d (.slice (srow l))] A = some (.d (.bool (ascV l)), A) := by
 have hlen : (srow l).length = l.length := by simp [srow]
 rw [kC Tryz.func52 rfl Tryz.ntmps52 Tryz.results52]
 simp only [go_sem, acondK_bool, hlen]
 refine loop_any (fun pre => [(6, .v (.d (.int .i64 (l.length : Nat)))), (5, .v (.d (.slice (srow l)))), (0, .v (.d (.slice (srow l)))), (7, .v (.d (.int .i64 (pre.length : Nat))))])
  (fun _ => A) (fun pre suf => some (.d (.bool (ascS pre.getLast? suf && decide (l.length ≤ 64))), A)) l rfl rfl rfl ?_
 intro pre suf h ih
 have hb : pre.length < 9223372036854775807 := by rw [h] at hl; simp at hl; omega
 cases suf with
 | nil =>
   have e4 : decide ((pre.length : Int) < (l.length : Int)) = false := by rw [h]; simp
   have e5 : decide ((l.length : Int) ≤ 64) = decide (l.length ≤ 64) := by
    by_cases h6 : l.length ≤ 64
    ·rw [decide_eq_true h6, decide_eq_true (by omega)]
    ·rw [decide_eq_false h6, decide_eq_false (by omega)]
   simp only [go_sem, acondK_bool, e4, ascS, e5, hlen]
 | cons x suf =>
   have e2 := ih x suf rfl
   rw [List.length_append, List.length_cons, List.length_nil] at e2
   simp only [List.getLast?_append, List.getLast?_singleton, Option.some_or] at e2
   have e3 : (srow l)[pre.length]? = some [.str x] := by rw [h]; exact map_mid
   have e4 : decide ((pre.length : Int) < (l.length : Int)) = true := by rw [h]; simp; omega
   have k1 := keyVP x A (hk x (by rw [h]; simp))
   simp only [ascS]
   cases h1 : keyV x with
   | false =>
     rw [h1] at k1
     simp only [go_sem, acondK_bool, e3, e4, k1, k_drawn_q]
   | true =>
   rw [h1] at k1
   rcases List.eq_nil_or_concat pre with rfl | ⟨pre', q, rfl⟩
   ·rw [show ((([] : List Bytes).length + (0 + 1) : Nat) : Int) = 1 from rfl] at e2
    have w1 : IntKind.i64.wrap 1 = 1 := by decide
    have e4 : decide ((0 : Int) < (l.length : Nat)) = true := e4
    simp only [List.length_nil, Nat.zero_add, List.getLast?_nil] at e2 e3 e4 ⊢
    simp only [go_sem, acondK_bool, e2, e3, e4, k1, k_drawn_q, w1]
   ·have e6 : (srow l)[pre'.length]? = some [.str q] := by rw [h, List.concat_eq_append, List.append_assoc]; exact map_mid
    have e7 : IntKind.i64.wrap (((pre'.concat q).length : Int) - 1) = (pre'.length : Nat) := by
     have e0 : ((pre'.concat q).length : Int) - 1 = (pre'.length : Nat) := by simp
     rw [List.length_concat] at hb
     rw [e0]
     exact wrap_in (by omega) (by omega)
    have e8 : decide ((0 : Int) < ((pre'.concat q).length : Nat)) = true := by rw [List.length_concat]; exact decide_eq_true (by omega)
    have e9 : (pre'.concat q).getLast? = some q := by simp
    rw [e9]
    simp only
    cases h3 : Op.bytesLess q x with
    | true => simp only [go_sem, acondK_bool, e2, e3, e4, e6, e7, e8, k1, h3, geqF, leqF, k_drawn_q, wrap_nat hb]
    | false => simp only [go_sem, acondK_bool, e3, e4, e6, e7, e8, k1, h3, geqF, leqF, k_drawn_q]
def footV (fa : Bool) (fr fw : List Bytes) : Bool := if fa = true then fr.isEmpty && fw.isEmpty else ascV fr && ascV fw
theorem validIP (fa : Bool) (fr fw : List Bytes) (A : AHeap) (h1 : fr.length ≤ 1099511627776) (h2 : fw.length ≤ 1099511627776) (h3 : ∀ k ∈ fr, k.length ≤ 1099511627776) (h4 : ∀ k ∈ fw, k.length ≤ 1099511627776) :
  acl C 45 [.agg [.d (.bool fa), .d (.slice (srow fr)), .d (.slice (srow fw))]] A = some (.d (.bool (footV fa fr fw)), A) := by
 have l1 : (srow fr).length = fr.length := by simp [srow]
 have l2 : (srow fw).length = fw.length := by simp [srow]
 have e1 : decide ((fr.length : Int) = 0) = fr.isEmpty := by cases fr <;> simp <;> omega
 have e2 : decide ((fw.length : Int) = 0) = fw.isEmpty := by cases fw <;> simp <;> omega
 have a1 := ascIP fr A h1 h3
 have a2 := ascIP fw A h2 h4
 unfold footV
 rw [kC Tryz.func45 rfl Tryz.ntmps45 Tryz.results45]
 cases fa with
 | true =>
   cases k1 : fr.isEmpty with
   | true => simp only [go_sem, acondK_bool, l1, l2, e1, e2, k1]
   | false => simp only [go_sem, acondK_bool, l1, l2, e1, e2, k1]
 | false =>
   cases k1 : ascV fr with
   | true =>
     rw [k1] at a1
     simp only [go_sem, acondK_bool, a1, a2]
   | false =>
     rw [k1] at a1
     simp only [go_sem, acondK_bool, a1]
theorem validFP (fa : Bool) (fr fw : List Bytes) (A : AHeap) (h1 : fr.length ≤ 1099511627776) (h2 : fw.length ≤ 1099511627776) (h3 : ∀ k ∈ fr, k.length ≤ 1099511627776) (h4 : ∀ k ∈ fw, k.length ≤ 1099511627776) :
  acl C 24 [.agg [.d (.bool fa), .d (.slice (srow fr)), .d (.slice (srow fw))]] A = some (.d (.bool (footV fa fr fw)), A) := by
 have l1 : (srow fr).length = fr.length := by simp [srow]
 have l2 : (srow fw).length = fw.length := by simp [srow]
 have e1 : decide ((fr.length : Int) = 0) = fr.isEmpty := by cases fr <;> simp <;> omega
 have e2 : decide ((fw.length : Int) = 0) = fw.isEmpty := by cases fw <;> simp <;> omega
 have a1 := ascFP fr A h1 h3
 have a2 := ascFP fw A h2 h4
 unfold footV
 rw [kC Tryz.func24 rfl Tryz.ntmps24 Tryz.results24]
 cases fa with
 | true =>
   cases k1 : fr.isEmpty with
   | true => simp only [go_sem, acondK_bool, l1, l2, e1, e2, k1]
   | false => simp only [go_sem, acondK_bool, l1, l2, e1, e2, k1]
 | false =>
   cases k1 : ascV fr with
   | true =>
     rw [k1] at a1
     simp only [go_sem, acondK_bool, a1, a2]
   | false =>
     rw [k1] at a1
     simp only [go_sem, acondK_bool, a1]
theorem bsD {A : AHeap} {l : List Bytes} (k : Bytes) (hl : l.length ≤ 1099511627776) :
  acl C 53 [.d (.slice (srow l)), .d (.str k)] A = some (.tuple [.d (.int .i64 (bsR l k 0 l.length : Nat)), .d (.bool (sIn l k))], A) := by
 have le (a b : Bytes) := lessP a b A
 have na (a : Bytes) := nanTP a A
 have hlen : (srow l).length = l.length := by simp [srow]
 have ix : ∀ i, i < l.length → (srow l)[i]? = some [.str (l.getD i [])] := fun i hi => by simp [srow, hi]
 rw [k_call_own (c := C) (f := 53) rfl Tryz.func53 rfl (ok 53 (by kernel_rfl)) rfl Tryz.ntmps53 Tryz.results53 (by simp)]
 simp only [go_sem, acondK_bool, hlen]
 refine loop_meas (fun s : Nat × Nat => [(7, .v (.d (.int .i64 (s.1 : Nat)))), (1, .v (.d (.str k))), (0, .v (.d (.slice (srow l)))), (8, .v (.d (.int .i64 (s.2 : Nat)))), (6, .v (.d (.int .i64 (l.length : Nat))))]) (fun _ => A)
  (fun s => s.2 - s.1) (fun s => s.1 ≤ s.2 ∧ s.2 ≤ l.length ∧ bsR l k s.1 s.2 = bsR l k 0 l.length) (0, l.length) rfl rfl ⟨by simp, by simp, rfl⟩ ?_
 rintro ⟨i, j⟩ ⟨h1, h2, h3⟩ ih
 simp only at h1 h2 h3 ih
 by_cases hlt : i < j
 ·have e1 : decide ((i : Int) < (j : Nat)) = true := by simp [hlt]
  have e2 : IntKind.i64.wrap ((i : Nat) + (j : Nat)) = ((i + j : Nat) : Int) := by rw [wrap_in] <;> omega
  have e3 : IntKind.u64.wrap ((i + j : Nat) : Int) = ((i + j : Nat) : Int) := u64_in (by omega) (by omega)
  have e4 : IntKind.i64.wrap (((i + j : Nat) : Int) / 2) = (((i + j) / 2 : Nat) : Int) := by rw [wrap_in] <;> omega
  have hm : (i + j) / 2 < l.length := by omega
  generalize hme : (i + j) / 2 = m at e4 hm
  have hs : bsR l k i j = if Op.bytesLess (l.getD m []) k = true then bsR l k (m + 1) j else bsR l k i m := by
   rw [bsR, dif_pos hlt, hme]
  have e5 : IntKind.i64.wrap ((m : Nat) + 1) = ((m + 1 : Nat) : Int) := by rw [wrap_in] <;> omega
  have e6 := ix m hm
  cases hc : Op.bytesLess (l.getD m []) k with
  | true =>
    rw [hc, if_pos rfl] at hs
    have i1 := ih (m + 1, j) (by simp only; omega) ⟨by simp only; omega, h2, by rw [← h3, hs]⟩
    simp only [go_sem, acondK_bool, e1, e2, e3, e4, e5, shr1, e6, le, hc, i1]
  | false =>
    rw [hc, if_neg (by simp)] at hs
    have i1 := ih (i, m) (by simp only; omega) ⟨by simp only; omega, by simp only; omega, by rw [← h3, hs]⟩
    simp only [go_sem, acondK_bool, e1, e2, e3, e4, e5, shr1, e6, le, hc, i1]
 ·have e1 : decide ((i : Int) < (j : Nat)) = false := by simp [hlt]
  have hs : bsR l k i j = i := by rw [bsR, dif_neg hlt]
  have hi : bsR l k 0 l.length = i := by rw [← h3, hs]
  unfold sIn
  have fin (x : Int) (y : Bool) := afin_np (f := 53) (A := A) (v := .tuple [.d (.int .i64 x), .d (.bool y)]) rfl rfl
  rw [hi]
  by_cases hn : i < l.length
  ·have e2 : decide ((i : Int) < (l.length : Nat)) = true := by simp [hn]
   have e3 : decide (i < l.length) = true := by simp [hn]
   have e6 := ix i hn
   rw [e3]
   cases he : l.getD i [] == k with
   | true => simp only [go_sem, acondK_bool, e1, e2, e6, he, na, Bool.true_and, fin]
   | false => simp only [go_sem, acondK_bool, e1, e2, e6, he, na, Bool.true_and, fin]
  ·have e2 : decide ((i : Int) < (l.length : Nat)) = false := by simp [hn]
   have e3 : decide (i < l.length) = false := by simp [hn]
   rw [e3]
   simp only [go_sem, acondK_bool, e1, e2, Bool.false_and, fin]
def meetS (a b : List Bytes) : Bool := a.any fun k => sIn b k
theorem meetP (a b : List Bytes) (A : AHeap) (ha : a.length ≤ 1099511627776) (hb : b.length ≤ 1099511627776) : acl C 25 [.d (.slice (srow a)), .d (.slice (srow b))] A = some (.d (.bool (meetS a b)), A) := by
 have hlen : (srow a).length = a.length := by simp [srow]
 have bs := fun k => bsD (A := A) (l := b) k hb
 unfold meetS
 rw [kC Tryz.func25 rfl Tryz.ntmps25 Tryz.results25]
 simp only [go_sem, acondK_bool, hlen]
 refine loop_any (fun pre => [(10, .v (.d (.int .i64 (a.length : Nat)))), (9, .v (.d (.slice (srow a)))), (1, .v (.d (.slice (srow b)))), (11, .v (.d (.int .i64 (pre.length : Nat))))]) (fun _ => A) (fun _ suf => some (.d (.bool (suf.any fun k => sIn b k)), A)) a rfl rfl rfl ?_
 intro pre suf h ih
 have hp : pre.length < 9223372036854775807 := by rw [h] at ha; simp at ha; omega
 cases suf with
 | nil =>
   have e4 : decide ((pre.length : Int) < (a.length : Int)) = false := by rw [h]; simp
   simp only [go_sem, acondK_bool, e4]
   rfl
 | cons x suf =>
   have e2 := ih x suf rfl
   rw [List.length_append, List.length_cons, List.length_nil] at e2
   have e3 : (srow a)[pre.length]? = some [.str x] := by rw [h]; exact map_mid
   have e4 : decide ((pre.length : Int) < (a.length : Int)) = true := by rw [h]; simp; omega
   have b1 := bs x
   rw [List.any_cons]
   cases hx : sIn b x with
   | true =>
     rw [hx] at b1
     simp only [go_sem, acondK_bool, e3, e4, b1]
   | false =>
     rw [hx] at b1
     simp only [go_sem, acondK_bool, e3, e4, b1, e2, wrap_nat hp]
structure Ft where
 all : Bool
 rd : List Bytes
 wr : List Bytes
def Ft.av (f : Ft) : AV := .agg [.d (.bool f.all), .d (.slice (srow f.rd)), .d (.slice (srow f.wr))]
structure Ft.Ok (f : Ft) : Prop where
 l1 : f.rd.length ≤ 1099511627776
 l2 : f.wr.length ≤ 1099511627776
 k1 : ∀ k ∈ f.rd, k.length ≤ 1099511627776
 k2 : ∀ k ∈ f.wr, k.length ≤ 1099511627776
def Ft.V (f : Ft) : Bool := footV f.all f.rd f.wr
def conflS (f g : Ft) : Bool := (((!f.V || !g.V) || f.all) || g.all) || (meetS f.wr g.wr || meetS f.wr g.rd || meetS f.rd g.wr)
theorem conflictsP (f g : Ft) (hf : f.Ok) (hg : g.Ok) (A : AHeap) : acl C 11 [f.av, g.av] A = some (.d (.bool (conflS f g)), A) := by
 have v1 := validFP f.all f.rd f.wr A hf.l1 hf.l2 hf.k1 hf.k2
 have v2 := validFP g.all g.rd g.wr A hg.l1 hg.l2 hg.k1 hg.k2
 have m1 := meetP f.wr g.wr A hf.l2 hg.l2
 have m2 := meetP f.wr g.rd A hf.l2 hg.l1
 have m3 := meetP f.rd g.wr A hf.l1 hg.l2
 unfold conflS Ft.V
 unfold Ft.av
 obtain ⟨fa, fr, fw⟩ := f
 obtain ⟨ga, gr, gw⟩ := g
 simp only at v1 v2 m1 m2 m3 ⊢
 rw [kC Tryz.func11 rfl Tryz.ntmps11 Tryz.results11]
 cases h1 : footV fa fr fw with
 | false => rw [h1] at v1; simp only [go_sem, acondK_bool, v1]
 | true =>
 rw [h1] at v1
 cases h2 : footV ga gr gw with
 | false => rw [h2] at v2; simp only [go_sem, acondK_bool, v1, v2]
 | true =>
 rw [h2] at v2
 cases fa with
 | true => simp only [go_sem, acondK_bool, v1, v2]
 | false =>
 cases ga with
 | true => simp only [go_sem, acondK_bool, v1, v2]
 | false =>
 cases h3 : meetS fw gw with
 | true => rw [h3] at m1; simp only [go_sem, acondK_bool, v1, v2, m1]
 | false =>
 rw [h3] at m1
 cases h4 : meetS fw gr with
 | true => rw [h4] at m2; simp only [go_sem, acondK_bool, v1, v2, m1, m2]
 | false =>
 rw [h4] at m2
 simp only [go_sem, acondK_bool, v1, v2, m1, m2, m3]
end Go.Proofs.YtpbdjgdmhfibmaaGreatDoor
-- CTX D
namespace Go.Proofs.YtpbdjgdmhfibmaaGreatDoor
open Go.Abs
attribute [local congr] ite_congr
set_option maxRecDepth 100000
def wrongAV : AV := effAV 2 1009 [] [] [] [] [] 0
theorem fin_data {f : FuncId} (ho : D.own f = false) {A B : AHeap} {v : AV} (hv : nice v) (h1 : B.objs.take A.objs.length = A.objs) (h2 : B.bufs.take A.bufs.length = A.bufs) : afinR D f A B (some v) = some (v, A) := by
 obtain ⟨n1, n2, n3⟩ := hv
 simp only [afinR, Option.map_some, afinish, ho, Bool.false_eq_true, if_false, acleanR_still n1, n2]
 unfold acut
 rw [if_pos h1, if_pos n3, h2]
theorem run_wrong {fa : Bool} {fr fw : List Bytes} (p : Pr) (hp : p.Ok) (vs : List Vl) (hv : ∀ v ∈ vs, v.Ok) (l : List Kv) (hl : l.length ≤ 1099511627776) (hk : ∀ p ∈ l, p.key.length ≤ 1099511627776 ∧ p.v.s.length ≤ 1099511627776) (A : AHeap) (h : runOk p vs l = false) :
  acl D 22 [Pr.av p, .d (.slice (vs.map Vl.row)), .d (.slice (l.map Kv.row)), .agg [.d (.bool fa), .d (.slice (srow fr)), .d (.slice (srow fw))]] A = some (wrongAV, A) := by
 have c1 := costD p hp
 have a1 := fun B => up (argsAny p hp vs hv B)
 have s1 := fun B => up (stVP l B hl hk)
 have w1 := fun B => up (wrongP B)
 have fin := fin_data (f := 22) rfl (v := wrongAV) ⟨rfl, rfl, rfl⟩ (A := A) (B := ⟨A.objs ++ [.cells [.d (.str p.name), .d (.slice (p.params.map Pm.row)), .d (.slice (p.body.map Stm.row))]], A.bufs⟩) (by simp) (by simp)
 unfold wrongAV effAV at fin ⊢
 unfold runOk at h
 rw [kD Tryz.func22 rfl Tryz.ntmps22 Tryz.results22]
 cases k1 : decide (costC p = 0) with
 | false => simp only [go_sem, acondK_bool, c1, k1, w1, fin]
 | true =>
 cases k2 : decide (argsS p vs = 0) with
 | false => simp only [go_sem, acondK_bool, c1, k1, a1, k2, w1, fin]
 | true =>
 have k3 : stV l = false := by rw [k1, k2] at h; simpa using h
 rw [k3] at s1
 simp only [go_sem, acondK_bool, c1, k1, a1, k2, s1, w1, fin]
def begF (p : Pr) (vs : List Vl) (l : List Kv) (fa : Bool) (fr fw : List Bytes) : Mc := { newS l fa fr fw with vars := varsR (vs.zip p.params) [] }
def finR2 : Rx → AV
 | .ok m => effAV 1 0 (m.out.map Vl.row) (srow m.reads) (srow m.writes) (putsR m.own m.writes) [] m.steps
 | .stop z m => effAV z.st z.code [] (srow m.reads) (srow m.writes) [] z.miss m.steps
theorem HM.push {A : AHeap} {x : Ids} {ov rv wv : AV} {m : Mc} (h : HM A x ov rv wv m) (o : AObj) : HM ⟨A.objs ++ [o], A.bufs⟩ x ov rv wv m :=
 ⟨by rw [List.getElem?_append_left (List.getElem?_eq_some_iff.1 h.cell).1]; exact h.cell, by rw [List.getElem?_append_left (List.getElem?_eq_some_iff.1 h.vars).1]; exact h.vars, by rw [List.getElem?_append_left (List.getElem?_eq_some_iff.1 h.own).1]; exact h.own, h.out, h.rd, h.wr, h.d1, h.d2, h.d3, h.n1, h.n2, h.n3⟩
theorem run_goes {fa : Bool} {fr fw : List Bytes} (hf : (⟨fa, fr, fw⟩ : Ft).Ok) (hV : (⟨fa, fr, fw⟩ : Ft).V = true) (p : Pr) (hp : p.Ok) (vs : List Vl) (hv : ∀ v ∈ vs, v.Ok) (l : List Kv) (hl : l.length ≤ 1099511627776) (hk : ∀ p ∈ l, p.key.length ≤ 1099511627776 ∧ p.v.s.length ≤ 1099511627776) (A : AHeap) (h : runOk p vs l = true)
  {S : Nat} (hSb : S ≤ 33554432) (hw : slW S p.body) (hx : XI S (begF p vs l fa fr fw) 0) :
  acl D 22 [Pr.av p, .d (.slice (vs.map Vl.row)), .d (.slice (l.map Kv.row)), .agg [.d (.bool fa), .d (.slice (srow fr)), .d (.slice (srow fw))]] A = some (finR2 (exL p.body (begF p vs l fa fr fw)), A) := by
 have c1 := costD p hp
 have a1 := fun B => up (argsAny p hp vs hv B)
 have s1 := fun B => up (stVP l B hl hk)
 have f1 : ∀ B, acl D 45 [.agg [.d (.bool fa), .d (.slice (srow fr)), .d (.slice (srow fw))]] B = some (.d (.bool true), B) := fun B => by
  have := up (validIP fa fr fw B hf.l1 hf.l2 hf.k1 hf.k2)
  rw [show footV fa fr fw = true from hV] at this
  exact this
 unfold runOk at h
 simp only [Bool.and_eq_true] at h
 obtain ⟨k1, k2, k3⟩ := h
 rw [k3] at s1
 obtain ⟨A1, hA1⟩ : ∃ A1 : AHeap, A1 = ⟨A.objs ++ [.cells [.d (.str p.name), .d (.slice (p.params.map Pm.row)), .d (.slice (p.body.map Stm.row))]], A.bufs⟩ := ⟨_, rfl⟩
 obtain ⟨A2, n1, n2, n3, n4, n5⟩ := newP l fa fr fw A1
 have n1 := up n1
 obtain ⟨q, hq⟩ : ∃ q, q = A1.objs.length := ⟨_, rfl⟩
 rw [← hq] at n1 n2 n3
 have hz : vs.length = p.params.length := by
  unfold argsS at k2
  cases hz : decide ((vs.length : Int) = (p.params.length : Nat)) with
  | true => simp at hz; omega
  | false => rw [hz] at k2; simp at k2
 rw [kD Tryz.func22 rfl Tryz.ntmps22 Tryz.results22]
 rw [hA1] at n1
 have hq' : q = A.objs.length + 1 := by rw [hq, hA1]; simp
 have gP2 : A2.objs[A.objs.length]? = some (.cells [.d (.str p.name), .d (.slice (p.params.map Pm.row)), .d (.slice (p.body.map Stm.row))]) := by
  rw [n4 _ (by rw [← hq]; omega), hA1]; simp
 have gP : ∀ o, (A2.objs ++ [o])[A.objs.length]? = some (.cells [.d (.str p.name), .d (.slice (p.params.map Pm.row)), .d (.slice (p.body.map Stm.row))]) := fun o => by
  rw [List.getElem?_append_left (by rw [n3]; omega)]; exact gP2
 simp only [go_sem, acondK_bool, c1, k1, a1, k2, s1, f1, n1, gP]
 have hx0 : (⟨q + 2, q, q + 1⟩ : Ids).v = q := rfl
 have hm3 : HM ⟨A2.objs ++ [AObj.cells [.ptr (q + 2) 0]], A2.bufs⟩ ⟨q + 2, q, q + 1⟩ .nilS .nilS .nilS (newS l fa fr fw) := n2.push _
 have z1 := zip_fst vs p.params hz
 have z2 := zip_snd vs p.params hz
 have z3 : (vs.zip p.params).length = vs.length := by simp [hz]
 have hvl : ∀ z ∈ vs.zip p.params, z.1 ∈ vs := fun z hz => (List.of_mem_zip hz).1
 have hbeg : begF p vs l fa fr fw = { newS l fa fr fw with vars := varsR (vs.zip p.params) [] } := rfl
 generalize hzz : vs.zip p.params = zs at *
 have hpl : p.params.length = zs.length := by rw [z3, hz]
 refine loop_any (fun pre => [(38, .v (.d (.int .i64 (pre.length : Nat)))), (1, .v (.d (.slice (vs.map Vl.row)))), (9, .v (.ptr A2.objs.length 0)), (36, .v (.d (.slice (p.params.map Pm.row)))), (4, .v (.ptr A.objs.length 0)), (8, .box [.d (.int .i64 0), .d (.int .i64 0), .nilS, .nilS, .nilS, .nilS, .d (.str []), .d (.int .i64 0)]), (37, .v (.d (.int .i64 (p.params.length : Nat))))])
  (fun pre => ⟨(A2.objs ++ [AObj.cells [.ptr (q + 2) 0]]).set q (.map (mapE (varsR pre []))), A2.bufs⟩) (fun _ _ => some (finR2 (exL p.body (begF p vs l fa fr fw)), A)) zs rfl ?_ rfl ?_
 ·have := hm3.vars
  simp only [newS, mapE, List.map_nil] at this
  simp only [varsR, mapE, List.map_nil]
  rw [set_same this]
 intro pre suf hps ih
 have hb : pre.length < 9223372036854775807 := by have := vld_prm (cost_vld (by simpa using k1)); rw [hps] at hpl; simp at hpl; omega
 have hmp := hm3.updV (varsR pre [])
 have hcp := hmp.cell
 have hvp := hmp.vars
 unfold mcell at hcp
 simp only at hcp hvp
 have g9 : ((A2.objs ++ [AObj.cells [.ptr (q + 2) 0]]).set q (.map (mapE (varsR pre []))))[A2.objs.length]? = some (.cells [.ptr (q + 2) 0]) := by
  rw [List.getElem?_set_ne (by rw [n3]; omega)]; simp
 cases suf with
 | cons z suf =>
   have e2 := ih z suf rfl
   rw [List.length_append, List.length_cons, List.length_nil] at e2
   simp only [varsR_app, varsR] at e2
   have e3 : (vs.map Vl.row)[pre.length]? = some [.int .i64 z.1.kind, .int .i64 z.1.n, .str z.1.s] := by rw [← z1, hps, List.map_map]; exact map_mid
   have e5 : (p.params.map Pm.row)[pre.length]? = some [.str z.2.name, .int .i64 z.2.type] := by rw [← z2, hps, List.map_map]; exact map_mid
   have e4 : decide ((pre.length : Int) < (p.params.length : Int)) = true := by rw [hpl, hps]; simp; omega
   have up' := aupd_mapE z.2.name z.1 (varsR pre [])
   have pl : aplainV (.agg [.d (.int .i64 z.1.kind), .d (.int .i64 z.1.n), .d (.str z.1.s)]) = true := rfl
   simp only [Vl.av] at up'
   simp only [go_sem, acondK_bool, k_drawn_t, e3, e4, e5, g9, hcp, hvp, up', pl, amuM]
   refine Eq.trans ctB ?_
   simp only [go_sem, acondK_bool, List.set_set, e2, wrap_nat hb]
 | nil =>
   rw [List.append_nil] at hps
   have e4 : decide ((pre.length : Int) < (p.params.length : Int)) = false := by rw [hpl, hps]; simp
   simp only [go_sem, acondK_bool, e4]
   have gPs : ((A2.objs ++ [AObj.cells [.ptr (q + 2) 0]]).set q (.map (mapE (varsR pre []))))[A.objs.length]? = some (.cells [.d (.str p.name), .d (.slice (p.params.map Pm.row)), .d (.slice (p.body.map Stm.row))]) := by
    rw [List.getElem?_set_ne (by omega)]; exact gP _
   have hold : ∀ i, i < A.objs.length → ((A2.objs ++ [AObj.cells [.ptr (q + 2) 0]]).set q (.map (mapE (varsR pre []))))[i]? = A.objs[i]? := fun i hi => by
    rw [List.getElem?_set_ne (by omega), List.getElem?_append_left (by rw [n3]; omega), n4 i (by rw [← hq]; omega), hA1]
    simp [List.getElem?_append_left hi]
   have hlen : ((A2.objs ++ [AObj.cells [.ptr (q + 2) 0]]).set q (.map (mapE (varsR pre [])))).length = A2.objs.length + 1 := by simp
   obtain ⟨HF, hHF⟩ : ∃ HF : AHeap, HF = ⟨(A2.objs ++ [AObj.cells [.ptr (q + 2) 0]]).set q (.map (mapE (varsR pre []))), A2.bufs⟩ := ⟨_, rfl⟩
   have hbeg' : begF p vs l fa fr fw = { newS l fa fr fw with vars := varsR pre [] } := by rw [hbeg, hps]
   rw [← hHF] at hmp ⊢
   have hHo : HF.objs = (A2.objs ++ [AObj.cells [.ptr (q + 2) 0]]).set q (.map (mapE (varsR pre []))) := by rw [hHF]
   have hHb : HF.bufs = A.bufs := by rw [hHF]; simp only; rw [n5, hA1]
   rw [← hHo] at gPs hold g9 hlen
   have hHS : HS HF ⟨q + 2, q, q + 1⟩ (begF p vs l fa fr fw) := ⟨_, _, _, by rw [hbeg']; exact hmp⟩
   have nou : ∀ t, ¬ used HF ⟨q + 2, q, q + 1⟩ t := fun t hu => by
    obtain ⟨cs, hcs, n, hn⟩ := hu
    rw [hmp.cell] at hcs
    cases hcs
    simp [mcell] at hn
   have pre0 : RunPre HF (q + 2) A2.objs.length A.objs.length ⟨q + 2, q, q + 1⟩ (begF p vs l fa fr fw) p.body S := ⟨rfl, hHS, g9, ⟨_, _, gPs⟩, hSb, hp.bfit, hp.body, hw, hx, by rw [hbeg']; simp [newS]⟩
   obtain ⟨⟨rv, R⟩, hr, hpost⟩ := runD pre0
   have ld0 : aload HF 1 false (.ptr A2.objs.length 0) = some (.ptr (q + 2) 0) := by simp only [aload, g9]; rfl
   have fine := exL_fine S p.body (begF p vs l fa fr fw) hw hx (by rw [hbeg']; simp [newS])
   -- what holds of the end
   have close : ∀ B', Keep HF R ⟨q + 2, q, q + 1⟩ → Rest4 R B' ⟨q + 2, q, q + 1⟩ → B'.objs.take A.objs.length = A.objs ∧ B'.bufs.take A.bufs.length = A.bufs ∧ aload R 1 false (.ptr A2.objs.length 0) = some (.ptr (q + 2) 0) ∧ aload B' 1 false (.ptr A2.objs.length 0) = some (.ptr (q + 2) 0) := fun B' k r4 => by
    have ne9 : A2.objs.length ≠ q + 2 ∧ A2.objs.length ≠ q ∧ A2.objs.length ≠ q + 1 := by rw [n3]; omega
    have o9 : R.objs[A2.objs.length]? = some (.cells [.ptr (q + 2) 0]) := by rw [k.objs _ (by rw [hlen]; omega) ne9.1 ne9.2.1 ne9.2.2]; exact g9
    refine ⟨?_, ?_, by simp only [aload, o9]; rfl, by simp only [aload, r4.objs, o9]; rfl⟩
    ·apply List.ext_getElem?
     intro i
     rw [List.getElem?_take]
     split
     ·rename_i hi
      rw [r4.objs, k.objs i (by rw [hlen, n3]; omega) (by simp only; omega) (by simp only; omega) (by simp only; omega), hold i hi]
     ·rw [List.getElem?_eq_none (by omega)]
    ·apply List.ext_getElem?
     intro t
     rw [List.getElem?_take]
     split
     ·rename_i ht
      have hb : HF.bufs[t]? = some A.bufs[t] := by rw [hHb]; exact List.getElem?_eq_getElem ht
      obtain ⟨b1, b2⟩ := k.bufs t _ hb (nou t)
      rw [r4.bufs t (List.getElem?_eq_some_iff.1 b1).1 b2, b1, List.getElem?_eq_getElem ht]
     ·rw [List.getElem?_eq_none (by omega)]
   have av1 : ∀ st code o r w ws miss steps, nice (effAV st code o r w ws miss steps) := fun _ _ _ _ _ _ _ _ => ⟨rfl, rfl, rfl⟩
   cases hxx : exL p.body (begF p vs l fa fr fw) with
   | ok m' =>
     rw [hxx] at hpost fine
     obtain ⟨r1, r2, r3, r4⟩ := hpost
     simp only at r1 r2 r3 r4
     subst r1
     obtain ⟨B', f1, f2⟩ := finishC r3 (by have := fine.1.wrl; omega)
     have f1 := up f1
     obtain ⟨t1, t2, ldA, ldB⟩ := close B' r4 f2
     have fin := fin_data (f := 22) rfl (v := effAV 1 0 (m'.out.map Vl.row) (srow m'.reads) (srow m'.writes) (putsR m'.own m'.writes) [] m'.steps) (av1 _ _ _ _ _ _ _ _) t1 t2
     simp only [Stp.av, noS] at hr f1
     unfold effAV at f1 fin
     simp only [finR2, effAV]
     simp only [go_sem, acondK_bool, k_drawn_t, g9, hr, f1]
     refine Eq.trans (ctE_free (free := [0]) (by repeat (first | exact MLe.nil | apply MLe.qq | apply MLe.q | apply MLe.o | apply MLe.b | apply MLe.l)) ?_ (by kernel_rfl)) ?_
     ·intro m' hm' hi
      simp only [List.nil_append, List.append_assoc, List.cons_append, List.mem_cons, List.not_mem_nil, or_false] at hm'
      rcases hm' with rfl | rfl | rfl | rfl | rfl | rfl | rfl | rfl
      all_goals first | (exact absurd hi Bool.false_ne_true) | skip
      refine ⟨1, false, .ptr A2.objs.length 0, rfl, ?_⟩
      intro mm hmm
      simp only [List.nil_append, List.append_assoc, List.cons_append, List.mem_cons, List.not_mem_nil, or_false] at hmm
      rcases hmm with rfl | rfl | rfl | rfl | rfl | rfl | rfl | rfl
      all_goals simp only [achg, ld0, ldA, ldB, ne_eq, not_true_eq_false, not_false_eq_true]
     ·simp only [go_sem, acondK_bool, fin]
   | stop z m' =>
     rw [hxx] at hpost fine
     obtain ⟨r1, r2, r3, r4⟩ := hpost
     simp only at r1 r2 r3 r4
     subst r1
     obtain ⟨B', f1, f2⟩ := finishE r3 z
     have f1 := up f1
     obtain ⟨t1, t2, ldA, ldB⟩ := close B' r4 f2
     have fin := fin_data (f := 22) rfl (v := effAV z.st z.code [] (srow m'.reads) (srow m'.writes) [] z.miss m'.steps) (av1 _ _ _ _ _ _ _ _) t1 t2
     simp only [Stp.av] at hr f1
     unfold effAV at f1 fin
     simp only [finR2, effAV]
     simp only [go_sem, acondK_bool, k_drawn_t, g9, hr, f1]
     refine Eq.trans (ctE_free (free := [0]) (by repeat (first | exact MLe.nil | apply MLe.qq | apply MLe.q | apply MLe.o | apply MLe.b | apply MLe.l)) ?_ (by kernel_rfl)) ?_
     ·intro m' hm' hi
      simp only [List.nil_append, List.append_assoc, List.cons_append, List.mem_cons, List.not_mem_nil, or_false] at hm'
      rcases hm' with rfl | rfl | rfl | rfl | rfl | rfl | rfl | rfl
      all_goals first | (exact absurd hi Bool.false_ne_true) | skip
      refine ⟨1, false, .ptr A2.objs.length 0, rfl, ?_⟩
      intro mm hmm
      simp only [List.nil_append, List.append_assoc, List.cons_append, List.mem_cons, List.not_mem_nil, or_false] at hmm
      rcases hmm with rfl | rfl | rfl | rfl | rfl | rfl | rfl | rfl
      all_goals simp only [achg, ld0, ldA, ldB, ne_eq, not_true_eq_false, not_false_eq_true]
     ·simp only [go_sem, acondK_bool, fin]
end Go.Proofs.YtpbdjgdmhfibmaaGreatDoor
namespace Go.Proofs.YtpbdjgdmhfibmaaGreatDoor
open Go.Abs
def ltK (p q : Kv) : Prop := Op.bytesLess p.key q.key = true
structure Srt (l : List Kv) : Prop where
 ord : l.Pairwise ltK
 key : ∀ p ∈ l, keyV p.key = true
 val : ∀ p ∈ l, valV p.v = true
theorem Srt.nil : Srt [] := ⟨List.Pairwise.nil, by simp, by simp⟩
theorem Srt.tail {x : Kv} {l : List Kv} (h : Srt (x :: l)) : Srt l := ⟨(List.pairwise_cons.1 h.ord).2, fun p hp => h.key p (List.mem_cons_of_mem _ hp), fun p hp => h.val p (List.mem_cons_of_mem _ hp)⟩
theorem Srt.lt {x : Kv} {l : List Kv} (h : Srt (x :: l)) : ∀ p ∈ l, Op.bytesLess x.key p.key = true := (List.pairwise_cons.1 h.ord).1
theorem srt_from : ∀ (l : List Kv) (q : Option Bytes), srtS q l = true ↔ (Srt l ∧ ∀ k, q = some k → ∀ p ∈ l, Op.bytesLess k p.key = true)
 | [], q => by simp [srtS, Srt.nil]
 | x :: l, q => by
   simp only [srtS, Bool.and_eq_true]
   rw [srt_from l (some x.key)]
   constructor
   ·rintro ⟨h1, h2, h3, h4, h5⟩
    have h5 := h5 x.key rfl
    refine ⟨⟨List.pairwise_cons.2 ⟨h5, h4.ord⟩, ?_, ?_⟩, ?_⟩
    ·intro p hp
     rcases List.mem_cons.1 hp with rfl | hp
     ·exact h1
     ·exact h4.key p hp
    ·intro p hp
     rcases List.mem_cons.1 hp with rfl | hp
     ·exact h2
     ·exact h4.val p hp
    ·rintro k rfl p hp
     simp only at h3
     rcases List.mem_cons.1 hp with rfl | hp
     ·exact h3
     ·exact bl_trans _ _ _ h3 (h5 p hp)
   ·rintro ⟨h1, h2⟩
    refine ⟨h1.key x (by simp), h1.val x (by simp), ?_, h1.tail, fun k e p hp => by cases e; exact h1.lt p hp⟩
    cases q with
    | none => rfl
    | some k => exact h2 k rfl x (by simp)
theorem srt_iff {l : List Kv} : srtS none l = true ↔ Srt l := by
 rw [srt_from]
 exact ⟨fun h => h.1, fun h => ⟨h, fun k e => by cases e⟩⟩
theorem stV_iff {l : List Kv} : stV l = true ↔ Srt l ∧ ∀ p ∈ l, p.v.kind ≠ 0 := by
 unfold stV
 rw [Bool.and_eq_true, srt_iff]
 simp
def kwr (p : Kv) : List Kv := if decide (p.v.kind = 0) = true then [] else [p]
theorem mem_kwr {p y : Kv} : p ∈ kwr y ↔ p = y ∧ p.v.kind ≠ 0 := by
 unfold kwr
 split
 ·rename_i h
  have h : y.v.kind = 0 := by simpa using h
  constructor
  ·simp
  ·rintro ⟨rfl, h2⟩; exact absurd h h2
 ·rename_i h
  have h : y.v.kind ≠ 0 := by simpa using h
  constructor
  ·intro hp
   have : p = y := by simpa using hp
   exact ⟨this, by rw [this]; exact h⟩
  ·rintro ⟨rfl, _⟩; simp
def apM : List Kv → List Kv → List Kv
 | [], [] => []
 | x :: a, [] => x :: apM a []
 | [], y :: b => kwr y ++ apM [] b
 | x :: a, y :: b => if Op.bytesLess x.key y.key = true then x :: apM a (y :: b) else if Op.bytesLess y.key x.key = true then kwr y ++ apM (x :: a) b else kwr y ++ apM a b
termination_by a b => a.length + b.length
theorem apM_mem (a b : List Kv) : Srt a → Srt b → ∀ p, p ∈ apM a b ↔ (p ∈ a ∧ ∀ q ∈ b, q.key ≠ p.key) ∨ (p ∈ b ∧ p.v.kind ≠ 0) := by
 fun_induction apM a b with
 | case1 => intro _ _ p; simp
 | case2 x a ih =>
   intro ha hb p
   simp only [List.mem_cons, ih ha.tail hb]
   simp
 | case3 y b ih =>
   intro ha hb p
   simp only [List.mem_append, mem_kwr, ih ha hb.tail, List.mem_cons]
   simp only [List.not_mem_nil, false_and, false_or]
   constructor
   ·rintro (⟨h, h2⟩ | ⟨h, h2⟩)
    ·exact ⟨.inl h, h2⟩
    ·exact ⟨.inr h, h2⟩
   ·rintro ⟨h | h, h2⟩
    ·exact .inl ⟨h, h2⟩
    ·exact .inr ⟨h, h2⟩
 | case4 x a y b h ih =>
   intro ha hb p
   rw [List.mem_cons, ih ha.tail hb]
   have key : ∀ q ∈ y :: b, q.key ≠ x.key := fun q hq => by
    rcases List.mem_cons.1 hq with rfl | hq
    ·exact bl_ne h
    ·exact bl_ne (bl_trans _ _ _ h (hb.lt q hq))
   constructor
   ·rintro (rfl | ⟨h1, h2⟩ | h1)
    ·exact .inl ⟨by simp, key⟩
    ·exact .inl ⟨List.mem_cons_of_mem _ h1, h2⟩
    ·exact .inr h1
   ·rintro (⟨h1, h2⟩ | h1)
    ·rcases List.mem_cons.1 h1 with rfl | h1
     ·exact .inl rfl
     ·exact .inr (.inl ⟨h1, h2⟩)
    ·exact .inr (.inr h1)
 | case5 x a y b h h' ih =>
   intro ha hb p
   rw [List.mem_append, mem_kwr, ih ha hb.tail]
   have key : ∀ q ∈ x :: a, y.key ≠ q.key := fun q hq => by
    rcases List.mem_cons.1 hq with rfl | hq
    ·exact bl_ne' h'
    ·exact bl_ne' (bl_trans _ _ _ h' (ha.lt q hq))
   constructor
   ·rintro (⟨rfl, h1⟩ | ⟨h1, h2⟩ | ⟨h1, h2⟩)
    ·exact .inr ⟨by simp, h1⟩
    ·refine .inl ⟨h1, fun q hq => ?_⟩
     rcases List.mem_cons.1 hq with rfl | hq
     ·exact key p h1
     ·exact h2 q hq
    ·exact .inr ⟨List.mem_cons_of_mem _ h1, h2⟩
   ·rintro (⟨h1, h2⟩ | ⟨h1, h2⟩)
    ·exact .inr (.inl ⟨h1, fun q hq => h2 q (List.mem_cons_of_mem _ hq)⟩)
    ·rcases List.mem_cons.1 h1 with rfl | h1
     ·exact .inl ⟨rfl, h2⟩
     ·exact .inr (.inr ⟨h1, h2⟩)
 | case6 x a y b h h' ih =>
   intro ha hb p
   rw [List.mem_append, mem_kwr, ih ha.tail hb.tail]
   have he : x.key = y.key := bl_tri _ _ (by simpa using h) (by simpa using h')
   constructor
   ·rintro (⟨rfl, h1⟩ | ⟨h1, h2⟩ | ⟨h1, h2⟩)
    ·exact .inr ⟨by simp, h1⟩
    ·refine .inl ⟨List.mem_cons_of_mem _ h1, fun q hq => ?_⟩
     rcases List.mem_cons.1 hq with rfl | hq
     ·rw [← he]; exact bl_ne' (ha.lt p h1)
     ·exact h2 q hq
    ·exact .inr ⟨List.mem_cons_of_mem _ h1, h2⟩
   ·rintro (⟨h1, h2⟩ | ⟨h1, h2⟩)
    ·rcases List.mem_cons.1 h1 with rfl | h1
     ·exact absurd he.symm (h2 y (by simp))
     ·exact .inr (.inl ⟨h1, fun q hq => h2 q (List.mem_cons_of_mem _ hq)⟩)
    ·rcases List.mem_cons.1 h1 with rfl | h1
     ·exact .inl ⟨rfl, h2⟩
     ·exact .inr (.inr ⟨h1, h2⟩)
theorem apM_sub {a b : List Kv} (ha : Srt a) (hb : Srt b) {p : Kv} (h : p ∈ apM a b) : p ∈ a ∨ p ∈ b := by
 rcases (apM_mem a b ha hb p).1 h with h | h
 ·exact .inl h.1
 ·exact .inr h.1
theorem kwr_app {y : Kv} {l : List Kv} (h : ∀ p ∈ l, ltK y p) (hl : l.Pairwise ltK) : (kwr y ++ l).Pairwise ltK := by
 unfold kwr
 split
 ·exact hl
 ·exact List.pairwise_cons.2 ⟨h, hl⟩
theorem apM_ord (a b : List Kv) : Srt a → Srt b → (apM a b).Pairwise ltK := by
 fun_induction apM a b with
 | case1 => intro _ _; exact List.Pairwise.nil
 | case2 x a ih =>
   intro ha hb
   refine List.pairwise_cons.2 ⟨fun p hp => ?_, ih ha.tail hb⟩
   rcases apM_sub ha.tail hb hp with h | h
   ·exact ha.lt p h
   ·simp at h
 | case3 y b ih =>
   intro ha hb
   refine kwr_app (fun p hp => ?_) (ih ha hb.tail)
   rcases apM_sub ha hb.tail hp with h | h
   ·simp at h
   ·exact hb.lt p h
 | case4 x a y b h ih =>
   intro ha hb
   refine List.pairwise_cons.2 ⟨fun p hp => ?_, ih ha.tail hb⟩
   rcases apM_sub ha.tail hb hp with h1 | h1
   ·exact ha.lt p h1
   ·rcases List.mem_cons.1 h1 with rfl | h1
    ·exact h
    ·exact bl_trans _ _ _ h (hb.lt p h1)
 | case5 x a y b h h' ih =>
   intro ha hb
   refine kwr_app (fun p hp => ?_) (ih ha hb.tail)
   rcases apM_sub ha hb.tail hp with h1 | h1
   ·rcases List.mem_cons.1 h1 with rfl | h1
    ·exact h'
    ·exact bl_trans _ _ _ h' (ha.lt p h1)
   ·exact hb.lt p h1
 | case6 x a y b h h' ih =>
   intro ha hb
   have he : x.key = y.key := bl_tri _ _ (by simpa using h) (by simpa using h')
   refine kwr_app (fun p hp => ?_) (ih ha.tail hb.tail)
   rcases apM_sub ha.tail hb.tail hp with h1 | h1
   ·unfold ltK; rw [← he]; exact ha.lt p h1
   ·exact hb.lt p h1
theorem apM_srt {a b : List Kv} (ha : Srt a) (hb : Srt b) : Srt (apM a b) :=
 ⟨apM_ord a b ha hb, fun p hp => (apM_sub ha hb hp).elim (ha.key p) (hb.key p), fun p hp => (apM_sub ha hb hp).elim (ha.val p) (hb.val p)⟩
theorem apM_stV {a b : List Kv} (ha : stV a = true) (hb : Srt b) : stV (apM a b) = true := by
 obtain ⟨h1, h2⟩ := stV_iff.1 ha
 refine stV_iff.2 ⟨apM_srt h1 hb, fun p hp => ?_⟩
 rcases (apM_mem a b h1 hb p).1 hp with h | h
 ·exact h2 p h.1
 ·exact h.2
theorem apM_len (a b : List Kv) : (apM a b).length ≤ a.length + b.length := by
 have hk : ∀ y, (kwr y).length ≤ 1 := fun y => by unfold kwr; split <;> simp
 fun_induction apM a b with
 | case1 => simp
 | case2 x a ih => simp only [List.length_cons, List.length_nil] at *; omega
 | case3 y b ih => have := hk y; simp only [List.length_cons, List.length_nil, List.length_append] at *; omega
 | case4 x a y b h ih => simp only [List.length_cons] at *; omega
 | case5 x a y b h h' ih => have := hk y; simp only [List.length_cons, List.length_append] at *; omega
 | case6 x a y b h h' ih => have := hk y; simp only [List.length_cons, List.length_append] at *; omega
theorem srt_ext : ∀ (l m : List Kv), Srt l → Srt m → (∀ p, p ∈ l ↔ p ∈ m) → l = m
 | [], [], _, _, _ => rfl
 | [], y :: m, _, _, h => absurd ((h y).2 (by simp)) (by simp)
 | x :: l, [], _, _, h => absurd ((h x).1 (by simp)) (by simp)
 | x :: l, y :: m, hl, hm, h => by
   have e : x = y := by
    rcases List.mem_cons.1 ((h x).1 (by simp)) with e | h1
    ·exact e
    ·rcases List.mem_cons.1 ((h y).2 (by simp)) with e | h2
     ·exact e.symm
     ·have a := hm.lt x h1
      have b := hl.lt y h2
      rw [bl_asym a] at b
      cases b
   subst e
   rw [srt_ext l m hl.tail hm.tail fun p => ?_]
   constructor
   ·intro hp
    rcases List.mem_cons.1 ((h p).1 (List.mem_cons_of_mem _ hp)) with rfl | h1
    ·have := hl.lt p hp; rw [bl_irr] at this; cases this
    ·exact h1
   ·intro hp
    rcases List.mem_cons.1 ((h p).2 (List.mem_cons_of_mem _ hp)) with rfl | h1
    ·have := hm.lt p hp; rw [bl_irr] at this; cases this
    ·exact h1
theorem getS_mem : ∀ (l : List Kv), Srt l → ∀ p ∈ l, getS l p.key = p.v
 | [], _, p, hp => by simp at hp
 | x :: l, h, p, hp => by
   unfold getS
   split
   ·rename_i e
    have e : x.key = p.key := by simpa using e
    rcases List.mem_cons.1 hp with rfl | hp
    ·rfl
    ·exact absurd e (bl_ne' (h.lt p hp))
   ·rename_i e
    rcases List.mem_cons.1 hp with rfl | hp
    ·simp at e
    ·exact getS_mem l h.tail p hp
theorem getS_none : ∀ (l : List Kv) (k : Bytes), (∀ p ∈ l, p.key ≠ k) → getS l k = zeroV
 | [], _, _ => rfl
 | x :: l, k, h => by
   unfold getS
   rw [if_neg (by simpa using h x (by simp))]
   exact getS_none l k fun p hp => h p (List.mem_cons_of_mem _ hp)
theorem getS_eq {l m : List Kv} (hl : Srt l) (hm : Srt m) {k : Bytes} (h : ∀ p, p.key = k → (p ∈ l ↔ p ∈ m)) : getS l k = getS m k := by
 by_cases hk : ∃ p ∈ l, p.key = k
 ·obtain ⟨p, hp, rfl⟩ := hk
  rw [getS_mem l hl p hp, getS_mem m hm p ((h p rfl).1 hp)]
 ·have hk' : ∀ p ∈ l, p.key ≠ k := fun p hp e => hk ⟨p, hp, e⟩
  rw [getS_none l k hk', getS_none m k fun p hp e => hk' p ((h p e).2 hp) e]
def updK (s : List Kv) (st : Int) (ws : List Kv) : List Kv := if decide (st = 1) = true then (if (stV s && srtS none ws) = true then apM s ws else s) else s
theorem updK_stV (s : List Kv) (st : Int) (ws : List Kv) : stV (updK s st ws) = stV s := by
 unfold updK
 split
 ·split
  ·rename_i h
   rw [Bool.and_eq_true] at h
   rw [h.1, apM_stV h.1 (srt_iff.1 h.2)]
  ·rfl
 ·rfl
theorem updK_get (s : List Kv) (st : Int) (ws : List Kv) (k : Bytes) (h : ∀ p ∈ ws, p.key ≠ k) : getS (updK s st ws) k = getS s k := by
 unfold updK
 split
 ·split
  ·rename_i hs
   rw [Bool.and_eq_true] at hs
   have h1 := (stV_iff.1 hs.1).1
   have h2 := srt_iff.1 hs.2
   refine getS_eq (apM_srt h1 h2) h1 fun p hp => ?_
   rw [apM_mem s ws h1 h2]
   constructor
   ·rintro (h3 | h3)
    ·exact h3.1
    ·exact absurd hp (h p h3.1)
   ·intro h3
    exact .inl ⟨h3, fun q hq => by rw [hp]; exact h q hq⟩
  ·rfl
 ·rfl
theorem apM_comm {s a b : List Kv} (hs : Srt s) (ha : Srt a) (hb : Srt b) (hd : ∀ p ∈ a, ∀ q ∈ b, p.key ≠ q.key) : apM (apM s a) b = apM (apM s b) a := by
 refine srt_ext _ _ (apM_srt (apM_srt hs ha) hb) (apM_srt (apM_srt hs hb) ha) fun p => ?_
 rw [apM_mem _ b (apM_srt hs ha) hb, apM_mem s a hs ha, apM_mem _ a (apM_srt hs hb) ha, apM_mem s b hs hb]
 constructor
 ·rintro (⟨⟨h1, h2⟩ | ⟨h1, h2⟩, h3⟩ | ⟨h1, h2⟩)
  ·exact .inl ⟨.inl ⟨h1, h3⟩, h2⟩
  ·exact .inr ⟨h1, h2⟩
  ·exact .inl ⟨.inr ⟨h1, h2⟩, fun q hq => hd q hq p h1⟩
 ·rintro (⟨⟨h1, h2⟩ | ⟨h1, h2⟩, h3⟩ | ⟨h1, h2⟩)
  ·exact .inl ⟨.inl ⟨h1, h3⟩, h2⟩
  ·exact .inr ⟨h1, h2⟩
  ·exact .inl ⟨.inr ⟨h1, h2⟩, fun q hq e => hd p h1 q hq e.symm⟩
theorem updK_comm (s : List Kv) (st st' : Int) (a b : List Kv) (hd : ∀ p ∈ a, ∀ q ∈ b, p.key ≠ q.key) : updK (updK s st a) st' b = updK (updK s st' b) st a := by
 have v1 := updK_stV s st a
 have v2 := updK_stV s st' b
 cases hs : stV s with
 | false =>
   have e : ∀ st ws, updK s st ws = s := fun st ws => by unfold updK; rw [hs]; simp
   simp only [e]
 | true =>
 have e : ∀ s', stV s' = true → ∀ st ws, updK s' st ws = if decide (st = 1) = true ∧ srtS none ws = true then apM s' ws else s' := fun s' h st ws => by
  unfold updK
  rw [h]
  cases decide (st = 1) <;> cases srtS none ws <;> simp
 rw [hs] at v1 v2
 rw [e _ v1, e _ v2, e _ hs, e _ hs]
 by_cases h1 : decide (st = 1) = true ∧ srtS none a = true
 ·by_cases h2 : decide (st' = 1) = true ∧ srtS none b = true
  ·rw [if_pos h1, if_pos h2, if_pos h2, if_pos h1]
   exact apM_comm (stV_iff.1 hs).1 (srt_iff.1 h1.2) (srt_iff.1 h2.2) hd
  ·rw [if_neg h2, if_neg h2]
 ·rw [if_neg h1, if_neg h1]
attribute [local congr] ite_congr
set_option maxRecDepth 100000
theorem cmp_lt : ∀ a b : Bytes, decide (Lib.compareBytes a b < 0) = Op.bytesLess a b
 | [], [] => rfl
 | [], _ :: _ => rfl
 | _ :: _, [] => rfl
 | x :: a, y :: b => by
   simp only [Lib.compareBytes, Op.bytesLess]
   by_cases h1 : x < y
   ·simp [h1]
   ·by_cases h2 : y < x
    ·have : ¬ x = y := fun e => by rw [e] at h2; exact UInt8.lt_irrefl _ h2
     simp [h1, h2, this]
    ·have : x = y := UInt8.toNat_inj.1 (by rw [UInt8.lt_iff_toNat_lt] at h1 h2; omega)
     subst this
     simp [UInt8.lt_irrefl, cmp_lt a b]
theorem cmp_gt : ∀ a b : Bytes, decide (0 < Lib.compareBytes a b) = Op.bytesLess b a
 | [], [] => rfl
 | [], _ :: _ => rfl
 | _ :: _, [] => rfl
 | x :: a, y :: b => by
   simp only [Lib.compareBytes, Op.bytesLess]
   by_cases h1 : x < y
   ·have h2 : ¬ y < x := by rw [UInt8.lt_iff_toNat_lt] at h1 ⊢; omega
    have : ¬ y = x := fun e => by rw [e] at h1; exact UInt8.lt_irrefl _ h1
    simp [h1, h2, this]
   ·by_cases h2 : y < x
    ·simp [h1, h2]
    ·have : x = y := UInt8.toNat_inj.1 (by rw [UInt8.lt_iff_toNat_lt] at h1 h2; omega)
     subst this
     simp [UInt8.lt_irrefl, cmp_gt a b]
def Kv.av (x : Kv) : AV := .agg [.d (.str x.key), .d (.int .i64 x.v.kind), .d (.int .i64 x.v.n), .d (.str x.v.s)]
theorem orderP (x y : Kv) (A : AHeap) : acl C 108 [x.av, y.av] A = some (.d (.int .i64 (Lib.compareBytes x.key y.key)), A) := by
 have c := cmpBP x.key y.key A
 unfold Kv.av
 rw [kC Tryz.func108 rfl Tryz.ntmps108 Tryz.results108]
 simp only [go_sem, acondK_bool, c]
noncomputable abbrev grP (A : AHeap) (l : List Kv) : AV × AHeap := agrow A 71 4 (l.map Kv.row)
theorem grP_append (A : AHeap) (l : List Kv) (x : Kv) (h : l.length ≤ 4194303) : aappend Tryz.prog 71 4 (grP A l).2 (grP A l).1 [[.str x.key, .int .i64 x.v.kind, .int .i64 x.v.n, .str x.v.s]] = some (grP A (l ++ [x])) := by
 have := agrow_append (P := Tryz.prog) (A := A) (ty := 71) (sz := 4) (rows := l.map Kv.row) (src := [x.row]) room_71_4 rfl (by simp; omega)
 unfold grP
 rw [List.map_append]
 exact this
def keepF (A : AHeap) : AV := .func (.func 105) [] [.ptr A.objs.length 0]
def writeF (A : AHeap) : AV := .func (.func 106) [] [.ptr (A.objs.length + 1) 0]
def bothF (A : AHeap) : AV := .func (.func 109) [] [.ptr (A.objs.length + 2) 0]
noncomputable def kH (A : AHeap) (l : List Kv) : AHeap := ⟨A.objs ++ [.cells [(grP A l).1], .cells [keepF A], .cells [writeF A]], (grP A l).2.bufs⟩
theorem kH_0 (A : AHeap) (l : List Kv) : (kH A l).objs[A.objs.length]? = some (.cells [(grP A l).1]) := by simp [kH]
theorem kH_1 (A : AHeap) (l : List Kv) : (kH A l).objs[A.objs.length + 1]? = some (.cells [keepF A]) := by simp [kH]
theorem kH_2 (A : AHeap) (l : List Kv) : (kH A l).objs[A.objs.length + 2]? = some (.cells [writeF A]) := by simp [kH]
theorem grP_ne (A : AHeap) (l : List Kv) (x : Kv) : (grP A l).1 ≠ (grP A (l ++ [x])).1 := by
 unfold grP
 rw [List.map_append, List.map_cons, List.map_nil, grow_snoc]
 unfold agrow
 split
 ·intro h; cases h
 ·intro h; simp at h
theorem kH_loud {f : FuncId} (ho : C.own f = false) (A : AHeap) (l : List Kv) (x : Kv) : afinR C f (kH A l) (kH A (l ++ [x])) (some (.tuple [])) = some (.tuple [], kH A (l ++ [x])) := by
 refine afinR_loud ho rfl ?_
 intro hh
 have h9 := congrArg (fun l : List AObj => l[A.objs.length]?) hh
 have hl : (kH A l).objs.length = A.objs.length + 3 := by simp [kH]
 have h0 := kH_0 A (l ++ [x])
 have h1 := kH_0 A l
 simp only [List.getElem?_take, hl] at h9
 rw [if_pos (by omega), h0, h1] at h9
 simp only [Option.some.injEq, AObj.cells.injEq, List.cons.injEq, and_true] at h9
 exact grP_ne A l x h9.symm
theorem keepP (x : Kv) (A : AHeap) (l : List Kv) (h : l.length ≤ 4194303) : acl C 105 [x.av, .ptr A.objs.length 0] (kH A l) = some (.tuple [], kH A (l ++ [x])) := by
 have g1 : ∀ os m, (⟨os, (grP A m).2.bufs⟩ : AHeap) = (grP ⟨os, A.bufs⟩ m).2 := fun os m => grow_heap
 have g2 : ∀ os m, (grP A m).1 = (grP ⟨os, A.bufs⟩ m).1 := fun os m => grow_fst rfl
 have e5' : ∀ O, aappend Tryz.prog 71 4 ⟨O, (grP A l).2.bufs⟩ (grP A l).1 [[.str x.key, .int .i64 x.v.kind, .int .i64 x.v.n, .str x.v.s]] = some ((grP A (l ++ [x])).1, ⟨O, (grP A (l ++ [x])).2.bufs⟩) := by
  intro O
  have q := grP_append ⟨O, A.bufs⟩ l x h
  have a1 := g1 O l
  have a2 := g2 O l
  rw [a1, a2]
  refine Eq.trans q ?_
  rw [g1 O, g2 O]
 have e5 := e5' (A.objs ++ [.cells [(grP A l).1], .cells [keepF A], .cells [writeF A]])
 rw [show (⟨A.objs ++ [.cells [(grP A l).1], .cells [keepF A], .cells [writeF A]], (grP A l).2.bufs⟩ : AHeap) = kH A l from rfl] at e5
 have e6 : (⟨(A.objs ++ [AObj.cells [(grP A l).1], .cells [keepF A], .cells [writeF A]]).set A.objs.length (.cells [(grP A (l ++ [x])).1]), (grP A (l ++ [x])).2.bufs⟩ : AHeap) = kH A (l ++ [x]) := by simp [kH]
 have e7 : (A.objs ++ [AObj.cells [(grP A l).1], .cells [keepF A], .cells [writeF A]])[A.objs.length]? = some (.cells [(grP A l).1]) := by simp
 have e8 := kH_0 A l
 have e9 : afinR C 105 (kH A l) ⟨A.objs ++ [.cells [(grP A (l ++ [x])).1], .cells [keepF A], .cells [writeF A]], (grP A (l ++ [x])).2.bufs⟩ (some (.tuple [])) = some (.tuple [], kH A (l ++ [x])) := kH_loud (f := 105) rfl A l x
 have e10 : (grP A (l ++ [x])).1.cells = [(grP A (l ++ [x])).1] := cells_grow
 have e11 : ((grP A (l ++ [x])).1).one = true := one_grow
 unfold Kv.av
 rw [kC Tryz.func105 rfl Tryz.ntmps105 Tryz.results105]
 simp only [go_sem, acondK_bool, e8, e5, e7, e6, e9, e10, e11]
theorem kwr_app' (l : List Kv) (x : Kv) : (x.v.kind = 0 → l ++ kwr x = l) ∧ (x.v.kind ≠ 0 → l ++ kwr x = l ++ [x]) := by
 unfold kwr
 constructor
 ·intro h; rw [if_pos (by simpa using h), List.append_nil]
 ·intro h; rw [if_neg (by simpa using h)]
theorem writeP (x : Kv) (A : AHeap) (l : List Kv) (h : l.length ≤ 4194303) : acl C 106 [x.av, .ptr (A.objs.length + 1) 0] (kH A l) = some (.tuple [], kH A (l ++ kwr x)) := by
 have a1 := absentP x (kH A l)
 have e1 := kH_1 A l
 have k1 := keepP x A l h
 obtain ⟨w0, w1⟩ := kwr_app' l x
 unfold Kv.av at k1 ⊢
 unfold keepF at e1
 rw [kC Tryz.func106 rfl Tryz.ntmps106 Tryz.results106]
 cases hk : decide (x.v.kind = 0) with
 | true =>
   rw [hk] at a1
   rw [w0 (by simpa using hk)]
   have f0 : afinR C 106 (kH A l) (kH A l) (some (.tuple [])) = some (.tuple [], kH A l) := afinR_still (c := C) (v := .tuple []) rfl rfl
   simp only [go_sem, acondK_bool, a1, f0]
 | false =>
   rw [hk] at a1
   rw [w1 (by simpa using hk)]
   have f1 := kH_loud (f := 106) rfl A l x
   simp only [go_sem, acondK_bool, a1, e1, k1, f1]
theorem bothP (x y : Kv) (A : AHeap) (l : List Kv) (h : l.length ≤ 4194303) : acl C 109 [x.av, y.av, .ptr (A.objs.length + 2) 0] (kH A l) = some (.tuple [], kH A (l ++ kwr y)) := by
 have e2 := kH_2 A l
 have k1 := writeP y A l h
 unfold Kv.av at k1 ⊢
 unfold writeF at e2
 obtain ⟨w0, w1⟩ := kwr_app' l y
 rw [kC Tryz.func109 rfl Tryz.ntmps109 Tryz.results109]
 by_cases hk : y.v.kind = 0
 ·rw [w0 hk] at k1 ⊢
  have f0 : afinR C 109 (kH A l) (kH A l) (some (.tuple [])) = some (.tuple [], kH A l) := afinR_still (c := C) (v := .tuple []) rfl rfl
  simp only [go_sem, acondK_bool, e2, k1, f0]
 ·rw [w1 hk] at k1 ⊢
  have f1 := kH_loud (f := 109) rfl A l y
  simp only [go_sem, acondK_bool, e2, k1, f1]
structure MgS where
 pa : List Kv
 sa : List Kv
 pb : List Kv
 sb : List Kv
 acc : List Kv
theorem mid_row {l pa sa : List Kv} {x : Kv} (h : l = pa ++ x :: sa) : (l.map Kv.row)[pa.length]? = some [.str x.key, .int .i64 x.v.kind, .int .i64 x.v.n, .str x.v.s] := by
 rw [h]; exact map_mid
set_option maxHeartbeats 1000000 in
theorem mergeP (a b : List Kv) (A : AHeap) (hl : a.length + b.length ≤ 4194303) :
  acl C 107 [.d (.slice (a.map Kv.row)), .d (.slice (b.map Kv.row)), .func (.func 108) [] [], keepF A, writeF A, bothF A] (kH A []) = some (.tuple [], kH A (apM a b)) := by
 have fl : ∀ l, l ≠ [] → afinR C 107 (kH A []) (kH A l) (some (.tuple [])) = some (.tuple [], kH A l) := by
  intro l hn
  refine afinR_loud rfl rfl ?_
  intro hh
  have h9 := congrArg (fun l : List AObj => l[A.objs.length]?) hh
  have hz : (kH A []).objs.length = A.objs.length + 3 := by simp [kH]
  have h0 := kH_0 A l
  have h1 := kH_0 A []
  simp only [List.getElem?_take, hz] at h9
  rw [if_pos (by omega), h0, h1] at h9
  simp only [Option.some.injEq, AObj.cells.injEq, List.cons.injEq, and_true] at h9
  obtain ⟨x, l', rfl⟩ := List.exists_cons_of_ne_nil hn
  unfold grP agrow at h9
  simp at h9
 have f0 : afinR C 107 (kH A []) (kH A []) (some (.tuple [])) = some (.tuple [], kH A []) := afinR_still (c := C) (v := .tuple []) rfl rfl
 have fin : ∀ l, afinR C 107 (kH A []) (kH A l) (some (.tuple [])) = some (.tuple [], kH A l) := by
  intro l
  by_cases h : l = []
  ·rw [h]; exact f0
  ·exact fl l h
 have kp := fun x l h => keepP x A l h
 have wp := fun x l h => writeP x A l h
 have bp := fun x y l h => bothP x y A l h
 have od := fun x y l => orderP x y (kH A l)
 unfold Kv.av at kp wp bp od
 unfold keepF writeF bothF
 rw [kC Tryz.func107 rfl Tryz.ntmps107 Tryz.results107]
 simp only [go_sem, acondK_bool]
 refine loop_meas (fun s : MgS => [(12, .v (.d (.int .i64 (s.pa.length : Nat)))), (0, .v (.d (.slice (a.map Kv.row)))), (3, .v (.func (.func 105) [] [.ptr A.objs.length 0])), (5, .v (.func (.func 109) [] [.ptr (A.objs.length + 2) 0])), (4, .v (.func (.func 106) [] [.ptr (A.objs.length + 1) 0])), (1, .v (.d (.slice (b.map Kv.row)))), (13, .v (.d (.int .i64 (s.pb.length : Nat)))), (2, .v (.func (.func 108) [] []))]) (fun s => kH A s.acc)
  (fun s => s.sa.length + s.sb.length) (fun s => a = s.pa ++ s.sa ∧ b = s.pb ++ s.sb ∧ s.acc ++ apM s.sa s.sb = apM a b ∧ s.acc.length ≤ s.pa.length + s.pb.length) ⟨[], a, [], b, []⟩ rfl rfl ⟨rfl, rfl, rfl, by simp⟩ ?_
 rintro ⟨pa, sa, pb, sb, acc⟩ ⟨h1, h2, h3, h4⟩ ih
 simp only at h1 h2 h3 h4 ih
 have la : a.length = pa.length + sa.length := by rw [h1]; simp
 have lb : b.length = pb.length + sb.length := by rw [h2]; simp
 have hacc : acc.length ≤ 4194303 := by omega
 have wa : IntKind.i64.wrap ((pa.length : Int) + 1) = ((pa.length + 1 : Nat) : Int) := by rw [wrap_in] <;> omega
 have wb : IntKind.i64.wrap ((pb.length : Int) + 1) = ((pb.length + 1 : Nat) : Int) := by rw [wrap_in] <;> omega
 cases sa with
 | nil =>
   have e1 : decide ((pa.length : Int) < (a.length : Int)) = false := by rw [la]; simp
   have e2 : decide ((pa.length : Int) = (a.length : Int)) = true := by rw [la]; simp
   cases sb with
   | nil =>
     have e3 : decide ((pb.length : Int) < (b.length : Int)) = false := by rw [lb]; simp
     have e4 : acc = apM a b := by rw [← h3]; simp [apM]
     have fin' := fin acc
     rw [← e4]
     simp only [go_sem, acondK_bool, e1, e3, fin']
   | cons y sb =>
     have e3 : decide ((pb.length : Int) < (b.length : Int)) = true := by rw [lb]; simp; omega
     have ry := mid_row h2
     have w1 := wp y acc hacc
     have hk : (kwr y).length ≤ 1 := by unfold kwr; split <;> simp
     have i1 := ih ⟨pa, [], pb ++ [y], sb, acc ++ kwr y⟩ (by simp) ⟨h1, by rw [h2]; simp, by rw [← h3]; simp [apM], by simp; omega⟩
     simp only [List.length_append, List.length_cons, List.length_nil, Nat.zero_add] at i1
     simp only [go_sem, acondK_bool, e1, e2, e3, ry, w1, wb, i1, k_drawn_q]
 | cons x sa =>
   have e1 : decide ((pa.length : Int) < (a.length : Int)) = true := by rw [la]; simp; omega
   have e2 : decide ((pa.length : Int) = (a.length : Int)) = false := by rw [la]; simp; omega
   have rx := mid_row h1
   have k1 := kp x acc hacc
   cases sb with
   | nil =>
     have e3 : decide ((pb.length : Int) = (b.length : Int)) = true := by rw [lb]; simp
     have i1 := ih ⟨pa ++ [x], sa, pb, [], acc ++ [x]⟩ (by simp) ⟨by rw [h1]; simp, h2, by rw [← h3]; simp [apM], by simp; omega⟩
     simp only [List.length_append, List.length_cons, List.length_nil, Nat.zero_add] at i1
     simp only [go_sem, acondK_bool, e1, e2, e3, rx, k1, wa, i1, k_drawn_q]
   | cons y sb =>
     have e3 : decide ((pb.length : Int) = (b.length : Int)) = false := by rw [lb]; simp; omega
     have ry := mid_row h2
     have hk : (kwr y).length ≤ 1 := by unfold kwr; split <;> simp
     have o1 := od x y acc
     have c1 := cmp_lt x.key y.key
     have c2 := cmp_gt x.key y.key
     have w1 := wp y acc hacc
     have b1 := bp x y acc hacc
     rw [apM] at h3
     cases g1 : Op.bytesLess x.key y.key with
     | true =>
       rw [g1] at c1
       rw [g1, if_pos rfl] at h3
       have i1 := ih ⟨pa ++ [x], sa, pb, y :: sb, acc ++ [x]⟩ (by simp) ⟨by rw [h1]; simp, h2, by rw [← h3]; simp, by simp; omega⟩
       simp only [List.length_append, List.length_cons, List.length_nil, Nat.zero_add] at i1
       simp only [go_sem, acondK_bool, e1, e2, e3, rx, ry, o1, c1, k1, wa, i1, k_drawn_q]
     | false =>
       rw [g1] at c1
       rw [g1, if_neg (by decide)] at h3
       cases g2 : Op.bytesLess y.key x.key with
       | true =>
         rw [g2] at c2
         rw [g2, if_pos rfl] at h3
         have i1 := ih ⟨pa, x :: sa, pb ++ [y], sb, acc ++ kwr y⟩ (by simp) ⟨h1, by rw [h2]; simp, by rw [← h3]; simp, by simp; omega⟩
         simp only [List.length_append, List.length_cons, List.length_nil, Nat.zero_add] at i1
         simp only [go_sem, acondK_bool, e1, e2, e3, rx, ry, o1, c1, c2, w1, wb, i1, k_drawn_q]
       | false =>
         rw [g2] at c2
         rw [g2, if_neg (by decide)] at h3
         have i1 := ih ⟨pa ++ [x], sa, pb ++ [y], sb, acc ++ kwr y⟩ (by simp; omega) ⟨by rw [h1]; simp, by rw [h2]; simp, by rw [← h3]; simp, by simp; omega⟩
         simp only [List.length_append, List.length_cons, List.length_nil, Nat.zero_add] at i1
         simp only [go_sem, acondK_bool, e1, e2, e3, rx, ry, o1, c1, c2, b1, wa, wb, k_drawn_q (id := 3), k_drawn_t (id := 8)]
         refine Eq.trans ctB ?_
         simp only [go_sem, acondK_bool, i1, wa, wb]
theorem take_front {α : Type} (l : List α) (b : α) (f : α → α) : ((l ++ [b]).modify l.length f).take l.length = l := List.take_modify_front f l [b]
theorem afin_app (A : AHeap) (l : List Kv) : afinR C 69 A (kH A l) (some (.tuple [(grP A l).1, .d (.int .i64 0)])) = some (.tuple [.d (.slice (l.map Kv.row)), .d (.int .i64 0)], A) := by
 have k : C.own 69 = false := by rfl
 simp only [afinR, Option.map_some, afinish, k, Bool.false_eq_true, if_false]
 unfold kH grP agrow
 by_cases h1 : l.map Kv.row = []
 ·simp only [h1, if_true, acleanR, acleanVs, acleanV, aclean]
  unfold acut
  simp [AV.noptr, AV.noptr2, AV.noptr1]
 ·simp only [if_neg h1, acleanR, acleanVs, acleanV, aclean, arows]
  simp only [List.getElem?_append_right (Nat.le_refl _), Nat.sub_self, List.getElem?_cons_zero, if_true]
  unfold acut
  simp [AHeap.freeze, AV.noptr, AV.noptr2, AV.noptr1]
  rw [take_front]
def applyAV (s ws : List Kv) : AV := if (stV s && srtS none ws) = true then .tuple [.d (.slice ((apM s ws).map Kv.row)), .d (.int .i64 0)] else .tuple [.d (.slice []), .d (.int .i64 1)]
structure KvsOk (l : List Kv) (n : Nat) : Prop where
 len : l.length ≤ n
 ok : ∀ p ∈ l, p.key.length ≤ 1099511627776 ∧ p.v.s.length ≤ 1099511627776
theorem applyP (s ws : List Kv) (A : AHeap) (hs : KvsOk s 2097152) (hw : KvsOk ws 1048576) : acl C 69 [.d (.slice (s.map Kv.row)), .d (.slice (ws.map Kv.row))] A = some (applyAV s ws, A) := by
 have v1 := stVP s A (Nat.le_trans hs.len (by decide)) hs.ok
 have v2 := sortedP ws A (Nat.le_trans hw.len (by decide)) hw.ok
 have m := mergeP s ws A (by have := hs.len; have := hw.len; omega)
 have fin := afin_app A (apM s ws)
 have g0 : (grP A []).1 = .nilS := rfl
 have kh : (⟨A.objs ++ [AObj.cells [.nilS], .cells [.func (.func 105) [] [.ptr A.objs.length 0]], .cells [.func (.func 106) [] [.ptr (A.objs.length + 1) 0]]], A.bufs⟩ : AHeap) = kH A [] := rfl
 have k0 := kH_0 A (apM s ws)
 have nf : AV.nilF.cells = [AV.nilF] := rfl
 have q1 := kH_1 A []
 have q2 := kH_2 A []
 unfold keepF at q1
 unfold writeF at q2
 unfold keepF writeF bothF at m
 unfold applyAV
 rw [kC Tryz.func69 rfl Tryz.ntmps69 Tryz.results69]
 cases h1 : stV s with
 | false => rw [h1] at v1; simp only [go_sem, acondK_bool, v1]
 | true =>
 rw [h1] at v1
 cases h2 : srtS none ws with
 | false => rw [h2] at v2; simp only [go_sem, acondK_bool, v1, v2]
 | true =>
 rw [h2] at v2
 simp only [go_sem, acondK_bool, v1, v2, nf, kh, q1, q2, m, k0, fin]
def Ef.av (e : Ef) : AV := effAV e.st e.code (e.out.map Vl.row) (srow e.rd) (srow e.wr) (e.ws.map Kv.row) e.miss e.steps
theorem finR2_av (r : Rx) : finR2 r = (efR r).av := by
 cases r with
 | ok m =>
   unfold Ef.av finR2 efR putsK putsR
   simp only [List.map_map]
   rfl
 | stop z m => rfl
def wrongE : Ef := ⟨2, 1009, [], [], [], [], [], 0⟩
def efS (p : Pr) (vs : List Vl) (l : List Kv) (f : Ft) : Ef := if runOk p vs l = true then efR (exL p.body (begF p vs l f.all f.rd f.wr)) else wrongE
structure StOk (l : List Kv) (n : Nat) : Prop where
 len : l.length ≤ n
 ok : ∀ p ∈ l, p.key.length ≤ 1099511627776 ∧ p.v.Ok
theorem StOk.kvs {l : List Kv} {n : Nat} (h : StOk l n) : KvsOk l n := ⟨h.len, fun p hp => ⟨(h.ok p hp).1, (h.ok p hp).2.s⟩⟩
theorem beg_xi {p : Pr} {vs : List Vl} {l : List Kv} {f : Ft} (hp : p.Ok) (hv : ∀ v ∈ vs, v.Ok) (hl : StOk l 2097152) (hf : f.Ok) (hr : runOk p vs l = true) : slW 1000 p.body ∧ XI 1000 (begF p vs l f.all f.rd f.wr) 0 := by
 obtain ⟨h1, h2, h3⟩ := run_facts hr
 have hst : srtS none l = true := by
  unfold stV at h3
  simp only [Bool.and_eq_true] at h3
  exact h3.1
 have hll := hl.len
 refine ⟨w_proc hp (cost_vld h1), ⟨vars_ok _ _ (args_fit h2 hv) (fun k v h => (by cases h)), fun k v h => (by cases h), fun k => get_ok l k fun x hx => val_ok (hl.ok x hx).2 (srt_val l none hst x hx), ?_, hf.l1, hf.l2, ?_, ?_, ?_, ?_, ?_⟩⟩
 all_goals simp [begF, newS]
 omega
theorem runFoot {p : Pr} {vs : List Vl} {l : List Kv} {f : Ft} (hp : p.Ok) (hv : ∀ v ∈ vs, v.Ok) (hl : StOk l 2097152) (hf : f.Ok) (hV : f.V = true) (A : AHeap) :
  acl D 22 [Pr.av p, .d (.slice (vs.map Vl.row)), .d (.slice (l.map Kv.row)), f.av] A = some ((efS p vs l f).av, A) := by
 have hll : l.length ≤ 1099511627776 := by have := hl.len; omega
 unfold efS
 cases hr : runOk p vs l with
 | false => exact run_wrong p hp vs hv l hll hl.kvs.ok A hr
 | true =>
   obtain ⟨h1, h2⟩ := beg_xi hp hv hl hf hr
   rw [if_pos rfl, ← finR2_av]
   exact run_goes hf hV p hp vs hv l hll hl.kvs.ok A hr (by decide) h1 h2
structure Ef.Ok (e : Ef) : Prop where
 out : e.out.length ≤ 1099511627776
 rd : e.rd.length ≤ 1099511627776
 wr : e.wr.length ≤ 1099511627776
 ws : StOk e.ws 1048576
theorem VOk.vl {v : Vl} (h : VOk v) : v.Ok := ⟨h.kind, h.n, by have := h.s; omega⟩
theorem wrongE_ok : wrongE.Ok := ⟨by simp [wrongE], by simp [wrongE], by simp [wrongE], ⟨by simp [wrongE], by simp [wrongE]⟩⟩
theorem hasN_mem {l : List Bytes} {k : Bytes} (h : hasN l k = true) : k ∈ l := by
 unfold hasN at h
 obtain ⟨x, hx, e⟩ := List.any_eq_true.1 h
 have : k = x := by simpa using e
 rw [this]; exact hx
theorem Ag.refl {m : Mc} {fr fw : List Bytes} (h1 : m.fa = false) (h2 : m.fr = fr) (h3 : m.fw = fw) (h4 : m.writes = []) : Ag m.state fr fw m m := ⟨rfl, h1, h2, h3, fun _ _ => rfl, by rw [h4]; simp⟩
theorem ef_in (p : Pr) (vs : List Vl) (l : List Kv) (f : Ft) (ha : f.all = false) : ∀ x ∈ (efS p vs l f).ws, x.key ∈ f.wr := by
 unfold efS
 split
 ·intro x hx
  have h0 : Ag l f.rd f.wr (begF p vs l f.all f.rd f.wr) (begF p vs l f.all f.rd f.wr) := Ag.refl (m := begF p vs l f.all f.rd f.wr) ha rfl rfl rfl
  exact hasN_mem ((ef_ag (exL_ag p.body h0)).2 x hx)
 ·simp [wrongE]
theorem ef_same (p : Pr) (vs : List Vl) (l k : List Kv) (f : Ft) (ha : f.all = false) (hv : stV l = stV k) (hg : ∀ x ∈ f.rd, getS l x = getS k x) : efS p vs l f = efS p vs k f := by
 have e : runOk p vs l = runOk p vs k := by unfold runOk; rw [hv]
 unfold efS
 rw [e]
 split
 ·have h0 : Ag k f.rd f.wr (begF p vs l f.all f.rd f.wr) (begF p vs k f.all f.rd f.wr) := ⟨rfl, ha, rfl, rfl, fun x hx => (hg x (hasN_mem hx)).symm, by simp [begF, newS]⟩
  exact (ef_ag (exL_ag p.body h0)).1
 ·rfl
theorem ef_ok {p : Pr} {vs : List Vl} {l : List Kv} {f : Ft} (hp : p.Ok) (hv : ∀ v ∈ vs, v.Ok) (hl : StOk l 2097152) (hf : f.Ok) (ha : f.all = false) : (efS p vs l f).Ok := by
 have hin := ef_in p vs l f ha
 unfold efS at hin ⊢
 cases hr : runOk p vs l with
 | false => exact wrongE_ok
 | true =>
   obtain ⟨h1, h2⟩ := beg_xi hp hv hl hf hr
   have fine := exL_fine 1000 p.body _ h1 h2 (by simp [begF, newS])
   rw [hr, if_pos rfl] at hin
   rw [if_pos rfl]
   cases hx : exL p.body (begF p vs l f.all f.rd f.wr) with
   | ok m =>
     rw [hx] at fine hin
     have w := fine.1.wrl
     have r := fine.1.reads
     have o := fine.1.out
     have s1 := fine.1.s1
     have s0 := fine.1.s0
     refine ⟨by show m.out.length ≤ _; omega, by show m.reads.length ≤ _; omega, by show m.writes.length ≤ _; omega, ⟨by simp [efR, putsK]; omega, fun x hx => ⟨hf.k2 _ (hin x hx), ?_⟩⟩⟩
     simp only [efR, putsK, List.mem_map] at hx
     obtain ⟨k, hk, rfl⟩ := hx
     simp only
     cases hlk : lookE m.own k with
     | none => exact zeroV_fine.vl
     | some v => exact (fine.1.own k v hlk).vl
   | stop z m =>
     rw [hx] at fine
     have w := XI.wrl fine
     have r := XI.reads fine
     have s1 := XI.s1 fine
     have s0 := XI.s0 fine
     exact ⟨by simp [efR], by show m.reads.length ≤ _; omega, by show m.writes.length ≤ _; omega, ⟨by simp [efR], by simp [efR]⟩⟩
theorem fin_dataC {f : FuncId} (ho : C.own f = false) {A B : AHeap} {v : AV} (h1 : v.still3 = true) (h2 : v.clean3.noptr = true) (h3 : B.objs.take A.objs.length = A.objs) (h4 : B.bufs.take A.bufs.length = A.bufs) : afinR C f A B (some v) = some (v.clean3, A) := by
 simp only [afinR, Option.map_some, afinish, ho, Bool.false_eq_true, if_false, acleanR_still h1]
 unfold acut
 rw [if_pos h3, if_pos h2, h4]
structure Tx where
 id : Int
 proc : Bytes
 args : List Vl
 foot : Ft
 att : Int
def Tx.row (t : Tx) : List Dat := [.int .i64 t.id, .str t.proc, .slice (t.args.map Vl.row), .bool t.foot.all, .slice (srow t.foot.rd), .slice (srow t.foot.wr), .int .i64 t.att]
def Tx.cs (t : Tx) : List AV := [.d (.int .i64 t.id), .d (.str t.proc), .d (.slice (t.args.map Vl.row)), .d (.bool t.foot.all), .d (.slice (srow t.foot.rd)), .d (.slice (srow t.foot.wr)), .d (.int .i64 t.att)]
structure Tx.Ok (t : Tx) : Prop where
 args : ∀ v ∈ t.args, v.Ok
 foot : t.foot.Ok
def idxPr (n : Bytes) : List Pr → Nat → Int
 | [], _ => -1
 | p :: l, i => if (p.name == n) = true then (i : Nat) else idxPr n l (i + 1)
theorem idxPr_find (n : Bytes) : ∀ (l : List Pr) (i : Nat), (idxPr n l i = -1 ∧ l.find? (fun p => p.name == n) = none) ∨ ∃ j p, idxPr n l i = ((i + j : Nat) : Int) ∧ l[j]? = some p ∧ l.find? (fun p => p.name == n) = some p
 | [], i => .inl ⟨rfl, rfl⟩
 | p :: l, i => by
   unfold idxPr
   rw [List.find?_cons]
   cases h : p.name == n with
   | true => exact .inr ⟨0, p, rfl, rfl, rfl⟩
   | false =>
     simp only [Bool.false_eq_true, if_false]
     rcases idxPr_find n l (i + 1) with ⟨h1, h2⟩ | ⟨j, q, h1, h2, h3⟩
     ·exact .inl ⟨h1, h2⟩
     ·exact .inr ⟨j + 1, q, by rw [h1]; congr 1; omega, by simpa using h2, h3⟩
theorem sameNameP (p : Pr) (t : Tx) (A : AHeap) (q : Nat) (hq : A.objs[q]? = some (.cells t.cs)) : acl C 140 [Pr.av p, .ptr q 0] A = some (.d (.bool (p.name == t.proc)), A) := by
 unfold Tx.cs at hq
 rw [kC Tryz.func140 rfl Tryz.ntmps140 Tryz.results140]
 simp only [go_sem, acondK_bool, hq]
theorem indexPP (l : List Pr) (t : Tx) (A : AHeap) (q : Nat) (hq : A.objs[q]? = some (.cells t.cs)) (hl : l.length ≤ 1099511627776) : acl C 139 [.d (.slice (l.map Pr.row)), .func (.func 140) [] [.ptr q 0]] A = some (.d (.int .i64 (idxPr t.proc l 0)), A) := by
 rw [kC Tryz.func139 rfl Tryz.ntmps139 Tryz.results139]
 simp only [go_sem, acondK_bool]
 refine loop_any (fun pre => [(7, .v (.d (.int .i64 (l.length : Nat)))), (1, .v (.func (.func 140) [] [.ptr q 0])), (0, .v (.d (.slice (l.map Pr.row)))), (8, .v (.d (.int .i64 (pre.length : Nat))))])
  (fun _ => A) (fun pre suf => some (.d (.int .i64 (idxPr t.proc suf pre.length)), A)) l rfl rfl rfl ?_
 intro pre suf h ih
 have hb : pre.length < 9223372036854775807 := by rw [h] at hl; simp at hl; omega
 cases suf with
 | nil =>
   have e4 : decide ((pre.length : Int) < (l.length : Int)) = false := by rw [h]; simp
   simp only [go_sem, acondK_bool, e4, idxPr]
 | cons x suf =>
   have e2 := ih x suf rfl
   rw [List.length_append, List.length_cons, List.length_nil] at e2
   have e3 : (l.map Pr.row)[pre.length]? = some [.str x.name, .slice (x.params.map Pm.row), .slice (x.body.map Stm.row)] := by rw [h]; exact map_mid
   have e4 : decide ((pre.length : Int) < (l.length : Int)) = true := by rw [h]; simp; omega
   have a1 := sameNameP x t A q hq
   unfold Pr.av at a1
   simp only [idxPr]
   cases h1 : x.name == t.proc with
   | true =>
     rw [h1] at a1
     simp only [go_sem, acondK_bool, e3, e4, a1]
   | false =>
     rw [h1] at a1
     simp only [go_sem, acondK_bool, e2, e3, e4, a1, wrap_nat hb]
def findS (ps : List Pr) (t : Tx) : Option Pr := match ps.find? (fun p => p.name == t.proc) with
 | some p => if decide (argsS p t.args = 0) = true then some p else none
 | none => none
def findAV : Option Pr → AV
 | some p => .tuple [Pr.av p, .d (.bool true)]
 | none => .tuple [.agg [.d (.str []), .d (.slice []), .d (.slice [])], .d (.bool false)]
structure PsOk (ps : List Pr) : Prop where
 len : ps.length ≤ 1048576
 ok : ∀ p ∈ ps, p.Ok
theorem findP (ps : List Pr) (t : Tx) (A : AHeap) (hp : PsOk ps) (ht : t.Ok) : acl C 98 [.d (.slice (ps.map Pr.row)), .agg t.cs] A = some (findAV (findS ps t), A) := by
 obtain ⟨B, hB⟩ : ∃ B : AHeap, B = ⟨A.objs ++ [.cells t.cs], A.bufs⟩ := ⟨_, rfl⟩
 have hq : B.objs[A.objs.length]? = some (.cells t.cs) := by rw [hB]; simp
 have i1 := indexPP ps t B A.objs.length hq (Nat.le_trans hp.len (by decide))
 have fin : ∀ v, v.still3 = true → v.clean3.noptr = true → afinR C 98 A B (some v) = some (v.clean3, A) := fun v h1 h2 => fin_dataC rfl h1 h2 (by rw [hB]; simp) (by rw [hB]; simp)
 unfold Tx.cs at hB hq ⊢
 unfold findS
 rw [kC Tryz.func98 rfl Tryz.ntmps98 Tryz.results98]
 rw [hB] at i1
 rcases idxPr_find t.proc ps 0 with ⟨h1, h2⟩ | ⟨j, p, h1, h2, h3⟩
 ·rw [h2]
  rw [h1] at i1
  have f1 := fin (.tuple [.agg [.d (.str []), .nilS, .nilS], .d (.bool false)]) rfl rfl
  rw [hB] at f1
  simp only [findAV]
  simp only [go_sem, acondK_bool, i1, f1, k_drawn_q]
 ·rw [h3]
  rw [h1, Nat.zero_add] at i1
  have hpm : p ∈ ps := List.mem_of_getElem? h2
  have a1 := argsAny p (hp.ok p hpm) t.args ht.args B
  rw [hB] at a1
  have e3 : (ps.map Pr.row)[j]? = some [.str p.name, .slice (p.params.map Pm.row), .slice (p.body.map Stm.row)] := by rw [List.getElem?_map, h2]; rfl
  have e4 : decide ((j : Int) < 0) = false := by simp
  have f1 := fin (.tuple [.agg [.d (.str []), .nilS, .nilS], .d (.bool false)]) rfl rfl
  have f2 := fin (.tuple [Pr.av p, .d (.bool true)]) rfl rfl
  rw [hB] at f1 f2
  unfold Pr.av at a1 f2
  simp only
  cases hc : decide (argsS p t.args = 0) with
  | true =>
    simp only [if_true, findAV, Pr.av]
    simp only [go_sem, acondK_bool, i1, f2, e3, e4, a1, hc, k_drawn_q]
  | false =>
    simp only [Bool.false_eq_true, if_false, findAV]
    simp only [go_sem, acondK_bool, i1, f1, e3, e4, a1, hc, k_drawn_q]
end Go.Proofs.YtpbdjgdmhfibmaaGreatDoor
-- CTX D
namespace Go.Proofs.YtpbdjgdmhfibmaaGreatDoor
open Go.Abs
attribute [local congr] ite_congr
set_option maxRecDepth 100000
def oneS (ps : List Pr) (s : List Kv) (t : Tx) : List Kv × Ef := match findS ps t with
 | some p => (updK s (efS p t.args s t.foot).st (efS p t.args s t.foot).ws, efS p t.args s t.foot)
 | none => (s, wrongE)
theorem cloneP (l : List Kv) (h : l.length ≤ 4194304) (A : AHeap) : acl D 31 [.d (.slice (l.map Kv.row))] A = some (.d (.slice (l.map Kv.row)), A) := by
 have ha : (l.map Kv.row).all (fun r => r.length == 4) = true := by simp [Kv.row]
 rw [acl_ext (c := D) (f := 31) (g := cloneFn 4) rfl]
 unfold cloneFn
 simp only [acleanVs, acleanV, aclean]
 rw [if_pos ⟨ha, by simpa using h⟩]
theorem find_mem {ps : List Pr} {t : Tx} {p : Pr} (h : findS ps t = some p) : p ∈ ps := by
 unfold findS at h
 split at h
 ·rename_i q hq
  split at h
  ·cases h; exact List.mem_of_find?_eq_some hq
  ·cases h
 ·cases h
theorem oneP (ps : List Pr) (s : List Kv) (t : Tx) (A : AHeap) (hp : PsOk ps) (hs : StOk s 2097152) (ht : t.Ok) (ha : t.foot.all = false) (hV : t.foot.V = true) :
  acl D 57 [.d (.slice (ps.map Pr.row)), .d (.slice (s.map Kv.row)), .agg t.cs] A = some (.tuple [.d (.slice ((oneS ps s t).1.map Kv.row)), (oneS ps s t).2.av], A) := by
 have f1 := up (findP ps t A hp ht)
 have hsl := hs.len
 have cl := cloneP s (by omega) A
 unfold oneS
 unfold Tx.cs at f1 ⊢
 unfold findAV at f1
 rw [kD Tryz.func57 rfl Tryz.ntmps57 Tryz.results57]
 cases hf : findS ps t with
 | none =>
   rw [hf] at f1
   simp only at f1
   have fin := fin_data (f := 57) rfl (v := .tuple [.d (.slice (s.map Kv.row)), wrongE.av]) ⟨rfl, rfl, rfl⟩ (A := A) (B := A) (by simp) (by simp)
   have e : wrongE.av = .agg [.d (.int .i64 2), .d (.int .i64 1009), .d (.slice []), .d (.slice []), .d (.slice []), .d (.slice []), .d (.str []), .d (.int .i64 0)] := rfl
   rw [e] at fin
   simp only [e]
   simp only [go_sem, acondK_bool, f1, cl, fin]
 | some p =>
   rw [hf] at f1
   simp only at f1
   have hpo := hp.ok p (find_mem hf)
   have r1 := runFoot hpo ht.args hs ht.foot hV A
   have eo := ef_ok hpo ht.args hs ht.foot ha
   simp only
   generalize efS p t.args s t.foot = e at *
   have ap := up (applyP s e.ws A hs.kvs eo.ws.kvs)
   have fin := fun (l : List Kv) => fin_data (f := 57) rfl (v := .tuple [.d (.slice (l.map Kv.row)), e.av]) ⟨rfl, rfl, rfl⟩ (A := A) (B := A) (by simp) (by simp)
   unfold Ef.av effAV at r1 fin ⊢
   unfold Pr.av at f1 r1
   unfold Ft.av at r1
   unfold updK
   unfold applyAV at ap
   cases h1 : decide (e.st = 1) with
   | false =>
     have fin1 := fin s
     simp only [Bool.false_eq_true, if_false]
     simp only [go_sem, acondK_bool, f1, r1, h1, cl, k_drawn_t]
     refine Eq.trans ctB ?_
     simp only [go_sem, acondK_bool, fin1]
   | true =>
     simp only [if_true]
     cases h2 : (stV s && srtS none e.ws) with
     | true =>
       rw [h2] at ap
       have fin1 := fin (apM s e.ws)
       simp only [if_true] at ap ⊢
       simp only [go_sem, acondK_bool, f1, r1, h1, ap, k_drawn_t]
       refine Eq.trans ctB ?_
       simp only [go_sem, acondK_bool, fin1]
     | false =>
       rw [h2] at ap
       have fin1 := fin s
       simp only [Bool.false_eq_true, if_false] at ap ⊢
       simp only [go_sem, acondK_bool, f1, r1, h1, ap, cl, k_drawn_t]
       refine Eq.trans ctB ?_
       simp only [go_sem, acondK_bool, fin1]
end Go.Proofs.YtpbdjgdmhfibmaaGreatDoor
