/- A name is put into an ascending list: how the code runs. -/
import Derived.WalkKit
import Derived.Shelf.Small.Strs
import Derived.Shelf.Strconv.Itoa4
import Derived.OpenShut
import Derived.Test.YtpbdjgdmhfibmaaGreatDoorSeatA
set_option linter.all false
namespace Go.Proofs.YtpbdjgdmhfibmaaGreatDoor
open Go.Abs Go.RowKit Go.Shelf
set_option maxRecDepth 100000
theorem with_found (v : Value) (k : ByteArray) (W : World) (n : Int) (Q : World → Prop) (hBS : Calls Tryz.prog 53 #[v, .string k] W fun e W1 => e = .returned (.tuple #[.int .i64 n, .bool true]) ∧ Q W1) :
  Calls Tryz.prog 170 #[v, .string k] W fun e W1 => e = .returned v ∧ Q W1 := by
 go_enter Tryz.func170, Tryz.ntmps170
 go_wp2_with (go_at_call 53; refine hBS.mono ?_; rintro e W1 ⟨rfl, hq⟩)
 go_ret
 exact ⟨rfl, hq⟩
theorem with_new (v : Value) (k : ByteArray) (W : World) (n : Int) (Q : World → Prop) (R : Ending → World → Prop) (hBS : Calls Tryz.prog 53 #[v, .string k] W fun e W1 => e = .returned (.tuple #[.int .i64 n, .bool false]) ∧ Q W1)
  (hIns : ∀ W1, Q W1 → Calls Tryz.prog 195 #[v, .int .i64 n, .slice (some ⟨W1.heap.size, 0, none⟩) 1 1] (W1.alloc (.cells #[.string k] 9)) fun e W2 => ∃ r, e = .returned r ∧ R e W2) :
  Calls Tryz.prog 170 #[v, .string k] W R := by
 go_enter Tryz.func170, Tryz.ntmps170
 go_wp2_with (first
  | (go_at_call 53; refine hBS.mono ?_; rintro e W1 ⟨rfl, hq⟩; have hI := hIns W1 hq)
  | (go_at_call 195; refine hI.mono ?_; rintro e W2 ⟨r, rfl, hR⟩))
 exact hR
theorem setCells_heap (b : Nat) : ∀ (new : List Value) (o : Nat) (W : World) (vs : Array Value) (T : TypeId) (fz : Nat × Nat), W.heap[b]? = some (.cells vs T fz) →
  ∃ vs', (W.setCells b o new).heap[b]? = some (.cells vs' T fz) ∧ vs'.size = vs.size ∧ (∀ k, (∀ j, j < new.length → k ≠ o + j) → vs'[k]? = vs[k]?) ∧ (∀ j v, new[j]? = some v → o + j < vs.size → vs'[o + j]? = some v) ∧ Local W (W.setCells b o new) b
 | [], o, W, vs, T, fz, h => ⟨vs, h, rfl, fun _ _ => rfl, fun j v hj => by simp at hj, ⟨rfl, fun _ _ => rfl, .refl W⟩⟩
 | x :: new, o, W, vs, T, fz, h => by
   have h1 : (W.setCell ⟨b, o, none⟩ x).heap[b]? = some (.cells (vs.setIfInBounds o x) T fz) := by
    unfold World.setCell
    simp only [Array.getElem?_modify, if_true, h]
    rfl
   obtain ⟨vs', e1, e2, e3, e4, e5⟩ := setCells_heap b new (o + 1) _ _ T fz h1
   refine ⟨vs', e1, by rw [e2]; simp, fun k hk => ?_, fun j v hj hlt => ?_, ⟨?_, fun k hk => ?_, ?_⟩⟩
   ·rw [e3 k (fun j hj => by have := hk (j + 1) (by simpa using hj); omega)]
    have := hk 0 (by simp)
    rw [Array.getElem?_setIfInBounds_ne (by omega)]
   ·cases j with
    | zero =>
      simp only [List.getElem?_cons_zero, Option.some.injEq] at hj
      subst hj
      rw [e3 (o + 0) (fun j _ => by omega)]
      rw [Nat.add_zero] at hlt ⊢
      simp [hlt]
    | succ j =>
      have := e4 j v (by simpa using hj) (by simp; omega)
      rwa [show o + 1 + j = o + (j + 1) by omega] at this
   ·rw [show W.setCells b o (x :: new) = (W.setCell ⟨b, o, none⟩ x).setCells b (o + 1) new from rfl, e5.size]
    simp [World.setCell]
   ·rw [show W.setCells b o (x :: new) = (W.setCell ⟨b, o, none⟩ x).setCells b (o + 1) new from rfl, e5.heap k hk]
    unfold World.setCell
    simp only [Array.getElem?_modify]
    rw [if_neg (fun e => hk e.symm)]
   ·exact Go.Abs.Rest.trans (W' := W.setCell ⟨b, o, none⟩ x) ⟨rfl, rfl⟩ e5.rest
structure Olds (W : World) (g : Gh) (l : List Bytes) (blk cap : Nat) (vs : Array Value) : Prop where
 at' : W.heap[blk]? = some (.cells vs 9 (0, 0))
 size : vs.size = cap
 len : l.length ≤ cap
 max : cap ≤ maxLen
 val : ∀ (i : Nat) (s : Bytes), l[i]? = some s → ∃ v, vs[i]? = some v ∧ RelD W g.S (.str s) v
theorem srow_get {l : List Bytes} {i : Nat} {row : List Dat} (h : (srow l)[i]? = some row) : ∃ s, l[i]? = some s ∧ row = [.str s] := by
 simp only [srow, List.getElem?_map, Option.map_eq_some_iff] at h
 obtain ⟨s, h1, h2⟩ := h
 exact ⟨s, h1, h2.symm⟩
theorem olds_of {W : World} {g : Gh} {A : AHeap} {tok : Nat} {l : List Bytes} (hw : WRel W g A) (hb : A.bufs[tok]? = some ⟨9, 1, srow l, 0⟩) {blk cap n : Nat} (hbf : g.bf tok = .slice (some ⟨blk, 0, none⟩) n cap) : ∃ vs, Olds W g l blk cap vs ∧ g.own blk = some (.buf tok) ∧ ∀ k, ¬ g.S blk k := by
 obtain ⟨blk', cap', vs, k1, k2, k3, k4, k5, k6, k7, k8, k9, k10⟩ := (hw.buf tok _ hb).ex (Nat.zero_le _)
 rw [hbf] at k1
 cases k1
 have hl : (srow l).length = l.length := by simp [srow]
 refine ⟨vs, ⟨k3, by simpa using k4, by simpa [srow] using k5, k6, fun i s hs => ?_⟩, k2, fun k hk => ?_⟩
 ·have := k9 i 0 [.str s] (.str s) (by simp [srow, hs]) rfl
  simpa using this
 ·have := k10 k hk
  simp at this
theorem put_here {W W' : World} {g : Gh} {A : AHeap} {tok : Nat} {l l' : List Bytes} (hw : WRel W g A) (hb : A.bufs[tok]? = some ⟨9, 1, srow l, 0⟩) {blk cap n : Nat} (hbf : g.bf tok = .slice (some ⟨blk, 0, none⟩) n cap) {vs' : Array Value}
  (hloc : Local W W' blk) (hat : W'.heap[blk]? = some (.cells vs' 9 (0, 0))) (hsz : vs'.size = cap) (hlen : l.length < l'.length) (hcap : l'.length ≤ cap) (hval : ∀ (i : Nat) (s : Bytes), l'[i]? = some s → ∃ v, vs'[i]? = some v ∧ RelD W g.S (.str s) v) :
  ∃ g', WRel W' g' ⟨A.objs, A.bufs.set tok ⟨9, 1, srow l', 0⟩⟩ ∧ Ev W g A W' g' ⟨A.objs, A.bufs.set tok ⟨9, 1, srow l', 0⟩⟩ ∧ RelV W' g' ⟨A.objs, A.bufs.set tok ⟨9, 1, srow l', 0⟩⟩ (.own tok l'.length) (.slice (some ⟨blk, 0, none⟩) l'.length cap) := by
 obtain ⟨vs, ho, hown, hS⟩ := olds_of hw hb hbf
 have htl := (List.getElem?_eq_some_iff.1 hb).1
 have hl : (srow l).length = l.length := by simp [srow]
 have hl' : (srow l').length = l'.length := by simp [srow]
 have hat' : (A.bufs.set tok ⟨9, 1, srow l', 0⟩)[tok]? = some ⟨9, 1, srow l', 0⟩ := by simp [htl]
 have hset := hw.setBuf (W' := W') (g' := { g with bf := fun t => if t = tok then .slice (some ⟨blk, 0, none⟩) l'.length cap else g.bf t }) (A' := ⟨A.objs, A.bufs.set tok ⟨9, 1, srow l', 0⟩⟩) (tok := tok) (b' := ⟨9, 1, srow l', 0⟩) rfl
  (fun t ht => by simp [List.getElem?_set_ne (fun e => ht e.symm)]) hat' (fun b2 hb2 => by rw [hb] at hb2; cases hb2; exact ⟨rfl, by simp only [hl, hl']; omega, fun e => by simp only [hl, hl'] at e; omega⟩)
  hloc.rest (Nat.le_of_eq hloc.size.symm) (fun b2 _ h2 => hloc.heap b2 fun e => h2 (e ▸ hown)) rfl rfl (fun t ht => by simp [ht]) (fun _ _ => rfl) (fun b2 o h1 h2 => by have := hw.lt _ _ h2; omega)
  (fun b2 k h1 h2 => by
   by_cases hbb : b2 = blk
   ·subst hbb; exact absurd h2 (hS k)
   ·exact cell_same (hloc.heap _ hbb))
  (fun ev => .of ⟨blk, cap, vs', by simp [hl'], hown, hat, by simpa using hsz, by simp only [hl']; exact hcap, ho.max, Nat.zero_le _, fun q row hq => by obtain ⟨s, _, rfl⟩ := srow_get hq; rfl, fun q j row c e1 e2 => by
   obtain ⟨s, h1, rfl⟩ := srow_get e1
   cases j with
   | zero =>
     simp at e2
     subst e2
     obtain ⟨v, h2, h3⟩ := hval q s h1
     exact ⟨v, by simpa using h2, ev.relD h3⟩
   | succ j => simp at e2, fun k hk => absurd hk (hS k)⟩)
 refine ⟨_, hset.1, hset.2, .own tok _ _ _ (by simpa using htl) fun b2 hb2 => ?_⟩
 rw [show (⟨A.objs, A.bufs.set tok ⟨9, 1, srow l', 0⟩⟩ : AHeap).bufs[tok]? = _ from hat'] at hb2
 cases hb2
 exact ⟨by simp [hl'], fun _ => by simp⟩
theorem heap_new {W W' : World} {vs : Array Value} {t : TypeId} (h1 : W'.heap.size = W.heap.size + 1) (h2 : W'.heap[W.heap.size]? = some (.cells vs t (0, 0))) (h3 : ∀ k, k < W.heap.size → W'.heap[k]? = W.heap[k]?) : W'.heap = (W.alloc (.cells vs t)).heap := by
 apply Array.ext_getElem?
 intro k
 rcases Nat.lt_trichotomy k W.heap.size with h | h | h
 ·rw [h3 k h, heap_alloc_get h]
 ·subst h
  rw [h2, heap_alloc_new]
 ·rw [Array.getElem?_eq_none (by omega), Array.getElem?_eq_none (by simp; omega)]
theorem put_there {W W' : World} {g : Gh} {A A' : AHeap} {tok : Nat} {l' : List Bytes} (hw : WRel W g A) (hobjs : A'.objs = A.objs) (hother : ∀ t, t ≠ tok → A'.bufs[t]? = A.bufs[t]?) (hat : A'.bufs[tok]? = some ⟨9, 1, srow l', 0⟩)
  (hold : ∀ b, A.bufs[tok]? = some b → b.sz = 1 ∧ b.rows.length < l'.length) {cap : Nat} {vs' : Array Value} (hW : W'.heap = (W.alloc (.cells vs' 9)).heap) (hrest : Go.Abs.Rest W W') (hsz : vs'.size = cap) (hcap : l'.length ≤ cap) (hmax : cap ≤ maxLen)
  (hval : ∀ (i : Nat) (s : Bytes), l'[i]? = some s → ∃ v, vs'[i]? = some v ∧ RelD W g.S (.str s) v) :
  ∃ g', WRel W' g' A' ∧ Ev W g A W' g' A' ∧ RelV W' g' A' (.own tok l'.length) (.slice (some ⟨W.heap.size, 0, none⟩) l'.length cap) := by
 have hl' : (srow l').length = l'.length := by simp [srow]
 have := hw.newBlock (A' := A') (W' := W') (tok := tok) (b' := ⟨9, 1, srow l', 0⟩) (vs := vs') (cap := cap) hother hobjs hat (fun b hb => ⟨(hold b hb).1.symm, by simp only [hl']; exact (hold b hb).2⟩) (by simp only [hl']; exact hcap) hmax (by simpa using hsz) (Nat.zero_le _)
  (fun q row hq => by obtain ⟨s, _, rfl⟩ := srow_get hq; rfl) (fun q j row c e1 e2 => by
   obtain ⟨s, h1, rfl⟩ := srow_get e1
   cases j with
   | zero =>
     simp at e2
     subst e2
     obtain ⟨v, h2, h3⟩ := hval q s h1
     exact ⟨v, by simpa using h2, h3⟩
   | succ j => simp at e2) hW hrest
 simp only [hl'] at this
 exact ⟨_, this⟩
theorem ins_get {l : List Bytes} {k : Bytes} {n : Nat} (hn : n ≤ l.length) {i : Nat} {s : Bytes} (h : (l.take n ++ k :: l.drop n)[i]? = some s) : (i < n ∧ l[i]? = some s) ∨ (i = n ∧ s = k) ∨ (n < i ∧ l[i - 1]? = some s) := by
 have ht : (l.take n).length = n := by simp; omega
 rcases Nat.lt_trichotomy i n with h1 | h1 | h1
 ·rw [List.getElem?_append_left (by omega), List.getElem?_take, if_pos h1] at h
  exact .inl ⟨h1, h⟩
 ·subst h1
  rw [List.getElem?_append_right (by omega), ht, Nat.sub_self] at h
  simp at h
  exact .inr (.inl ⟨rfl, h.symm⟩)
 ·rw [List.getElem?_append_right (by omega), ht, show i - n = (i - 1 - n) + 1 by omega, List.getElem?_cons_succ, List.getElem?_drop, show n + (i - 1 - n) = i - 1 by omega] at h
  exact .inr (.inr ⟨h1, h⟩)
def putH (A : AHeap) (tok : Nat) (l : List Bytes) : AHeap := ⟨A.objs, A.bufs.set tok ⟨9, 1, srow l, 0⟩⟩
theorem putH_other (A : AHeap) (tok : Nat) (l : List Bytes) (t : Nat) (h : t ≠ tok) : (putH A tok l).bufs[t]? = A.bufs[t]? := by simp [putH, List.getElem?_set_ne (fun e => h e.symm)]
theorem ins_own {W : World} {g : Gh} {A : AHeap} {tok : Nat} {l : List Bytes} {blk cap vb n : Nat} {kb : ByteArray} (hw : WRel W g A) (hb : A.bufs[tok]? = some ⟨9, 1, srow l, 0⟩) (hl : l.length ≤ 1099511627776) (hbf : g.bf tok = .slice (some ⟨blk, 0, none⟩) l.length cap)
  (hvb : W.heap[vb]? = some (.cells #[.string kb] 9 (0, 0))) (hvo : g.own vb = none) (hn : n ≤ l.length) :
  Calls Tryz.prog 195 #[.slice (some ⟨blk, 0, none⟩) l.length cap, .int .i64 n, .slice (some ⟨vb, 0, none⟩) 1 1] W fun e W' => ∃ r, e = .returned r ∧
   ∃ g', WRel W' g' (putH A tok (l.take n ++ kb.data.toList :: l.drop n)) ∧ Ev W g A W' g' (putH A tok (l.take n ++ kb.data.toList :: l.drop n)) ∧ RelV W' g' (putH A tok (l.take n ++ kb.data.toList :: l.drop n)) (.own tok (l.take n ++ kb.data.toList :: l.drop n).length) r := by
 obtain ⟨vs, ho, hown, hS⟩ := olds_of hw hb hbf
 have hne : vb ≠ blk := fun e => by rw [e, hown] at hvo; cases hvo
 have htl := (List.getElem?_eq_some_iff.1 hb).1
 have hlen : (l.take n ++ kb.data.toList :: l.drop n).length = l.length + 1 := by simp; omega
 have hat : (putH A tok (l.take n ++ kb.data.toList :: l.drop n)).bufs[tok]? = some ⟨9, 1, srow (l.take n ++ kb.data.toList :: l.drop n), 0⟩ := by simp [putH, htl]
 have hold : ∀ b, A.bufs[tok]? = some b → b.sz = 1 ∧ b.rows.length < (l.take n ++ kb.data.toList :: l.drop n).length := fun b hb' => by
  rw [hb] at hb'; cases hb'
  exact ⟨rfl, by rw [hlen]; simp [srow]⟩
 have hcapm := ho.max
 have hcl := ho.len
 have hvs := ho.size
 have hbw : blk < W.heap.size := (Array.getElem?_eq_some_iff.1 ho.at').1
 have hvw : vb < W.heap.size := (Array.getElem?_eq_some_iff.1 hvb).1
 unfold maxLen at hcapm
 have cb : ∀ j, W.cell? ⟨blk, j, none⟩ = vs[j]? := fun j => cell_of_row W blk j vs _ _ ho.at'
 have fb : ∀ j, W.frozen? ⟨blk, j, none⟩ = false := fun j => frozen_of_row W blk j vs _ ho.at'
 have cv : ∀ j v, [Value.string kb][j]? = some v → W.cell? ⟨vb, 0 + j, none⟩ = some v := fun j v hj => by
  rw [Nat.zero_add, cell_of_row W vb j _ _ _ hvb, ← Array.getElem?_toList]; exact hj
 have cs : ∀ j v, (vs.toList.take l.length)[j]? = some v → W.cell? ⟨blk, 0 + j, none⟩ = some v := fun j v hj => by
  rw [Nat.zero_add, cb, ← Array.getElem?_toList]
  rw [List.getElem?_take] at hj
  split at hj
  ·exact hj
  ·cases hj
 have csl : (vs.toList.take l.length).length = l.length := by simp; omega
 have one1 : ∀ v ∈ [Value.string kb], v.oneCell' = true := by simp [Value.oneCell']
 have csv : ∀ i, i < l.length → ∀ s, l[i]? = some s → ∃ v, (vs.toList.take l.length)[i]? = some v ∧ RelD W g.S (.str s) v := fun i hi s hs => by
  obtain ⟨v, h1, h2⟩ := ho.val i s hs
  exact ⟨v, by rw [List.getElem?_take, if_pos hi, Array.getElem?_toList]; exact h1, h2⟩
 have oneC : ∀ v ∈ vs.toList.take l.length, v.oneCell' = true := fun v hv => by
  obtain ⟨i, hi⟩ := List.getElem?_of_mem hv
  have hil : i < l.length := by have := (List.getElem?_eq_some_iff.1 hi).1; omega
  obtain ⟨v', h1, h2⟩ := csv i hil _ (List.getElem?_eq_getElem hil)
  rw [hi] at h1
  cases h1
  exact h2.one
 have kr : RelD W g.S (.str kb.data.toList) (.string kb) := .str kb
 rcases Nat.lt_or_ge n l.length with hlt | hge
 ·by_cases hroom : l.length + 1 ≤ cap
  ·-- in place, in the middle
   refine (Any2.slices_Insert_string_shift lay_Lays2_n22 blk 0 l.length cap n vb 0 1 1 (vs.toList.take l.length) [.string kb] W hlt (by omega) hroom (by omega) hne csl rfl cs (fun j hj => by rw [Nat.zero_add, cb, Array.getElem?_eq_getElem (by omega)]; rfl) (fun j _ => by rw [Nat.zero_add]; exact fb j) cv oneC one1
    9 9 1 cap (by simp [World.shape?, hvb]) (by simp [World.shape?, ho.at', hvs]) (by omega) (frozen_of_row W vb 0 _ _ hvb) (frozen_of_row W vb 1 _ _ hvb)).mono ?_
   rintro e W' ⟨rfl, rfl⟩
   obtain ⟨v1, a1, a2, a3, a4, a5⟩ := setCells_heap blk ((vs.toList.take l.length).drop n) (0 + (n + 1)) W.drew vs _ _ ho.at'
   obtain ⟨v2, b1, b2, b3, b4, b5⟩ := setCells_heap blk [.string kb] (0 + n) _ v1 _ _ a1
   have dl : ((vs.toList.take l.length).drop n).length = l.length - n := by rw [List.length_drop, csl]
   have loc : Local W ((W.drew.setCells blk (0 + (n + 1)) ((vs.toList.take l.length).drop n)).setCells blk (0 + n) [.string kb]) blk :=
    ⟨by rw [b5.size, a5.size]; rfl, fun b hb => by rw [b5.heap b hb, a5.heap b hb]; rfl, Go.Abs.Rest.trans (W' := W.drew) ⟨rfl, rfl⟩ (a5.rest.trans b5.rest)⟩
   obtain ⟨g', h1, h2, h3⟩ := put_here (l' := l.take n ++ kb.data.toList :: l.drop n) hw hb hbf loc b1 (by rw [b2, a2, hvs]) (by omega) (by omega) (fun i s hs => by
    rcases ins_get hn hs with ⟨q1, q2⟩ | ⟨q1, q2⟩ | ⟨q1, q2⟩
    ·obtain ⟨v, h1, h2⟩ := ho.val i s q2
     exact ⟨v, by rw [b3 i (fun j hj => by simp at hj; omega), a3 i (fun j hj => by omega)]; exact h1, h2⟩
    ·subst q1 q2
     exact ⟨_, by have := b4 0 _ rfl (by omega); simpa using this, kr⟩
    ·have hi : i - 1 < l.length := (List.getElem?_eq_some_iff.1 q2).1
     obtain ⟨v, h1, h2⟩ := csv (i - 1) hi s q2
     refine ⟨v, ?_, h2⟩
     rw [b3 i (fun j hj => by simp at hj; omega)]
     have := a4 (i - 1 - n) v (by rw [List.getElem?_drop, show n + (i - 1 - n) = i - 1 by omega]; exact h1) (by omega)
     rwa [show 0 + (n + 1) + (i - 1 - n) = i by omega] at this)
   rw [hlen] at h3 ⊢
   exact ⟨_, rfl, g', h1, h2, h3⟩
  ·-- in the middle, somewhere else
   refine (Any2.slices_Insert_string_grow lay_Lays2_n22 blk 0 l.length cap n vb 0 1 1 (vs.toList.take l.length) [.string kb] W hlt (by omega) hcl (by omega) (by omega) csl rfl cs cv oneC one1).mono ?_
   rintro e W' ⟨rfl, rfl⟩
   have gt : rho2.t 9 = 9 := rfl
   rw [gt]
   have g1 := grownCap_ge W (l.length + 1) cap 9
   have g2 := grownCap_le_maxLen W (l.length + 1) cap 9 (by unfold maxLen; omega)
   generalize grownCap W (l.length + 1) cap 9 = G at g1 g2 ⊢
   obtain ⟨ROW, hROW⟩ : ∃ ROW, ROW = ((vs.toList.take l.length).take n).toArray ++ Builtin.zeroCells (Value.string ⟨#[]⟩).cells (l.length + 1 - n) ++ Builtin.zeroCells (Value.string ⟨#[]⟩).cells (G - (l.length + 1)) := ⟨_, rfl⟩
   rw [← hROW]
   have hRs : ROW.size = G := by
    rw [hROW]
    simp only [Array.size_append, size_zeroCells, List.size_toArray, List.length_take, Array.length_toList]
    simp only [Value.cells, List.size_toArray, List.length_cons, List.length_nil]
    omega
   have hRg : ∀ i, i < n → ROW[i]? = (vs.toList.take l.length)[i]? := fun i hi => by
    rw [hROW, Array.append_assoc, Array.getElem?_append_left (by simp; omega), List.getElem?_toArray, List.getElem?_take, if_pos hi]
   have r0 : (W.alloc (.cells ROW 9)).drew.heap[W.heap.size]? = some (.cells ROW 9 (0, 0)) := heap_alloc_new W _
   obtain ⟨v1, a1, a2, a3, a4, a5⟩ := setCells_heap W.heap.size [.string kb] n _ ROW _ _ r0
   obtain ⟨v2, b1, b2, b3, b4, b5⟩ := setCells_heap W.heap.size ((vs.toList.take l.length).drop n) (n + 1) (((W.alloc (.cells ROW 9)).drew.setCells W.heap.size n [.string kb]).drew) v1 _ _ a1
   have dl : ((vs.toList.take l.length).drop n).length = l.length - n := by rw [List.length_drop, csl]
   have hsz : ((((W.alloc (.cells ROW 9)).drew.setCells W.heap.size n [.string kb]).drew).setCells W.heap.size (n + 1) ((vs.toList.take l.length).drop n)).heap.size = W.heap.size + 1 := by
    rw [b5.size]
    show ((W.alloc (.cells ROW 9)).drew.setCells W.heap.size n [.string kb]).heap.size = _
    rw [a5.size]
    show (W.alloc (.cells ROW 9)).heap.size = _
    simp
   obtain ⟨g', h1, h2, h3⟩ := put_there (l' := l.take n ++ kb.data.toList :: l.drop n) (A' := putH A tok (l.take n ++ kb.data.toList :: l.drop n)) hw rfl (putH_other A tok _) hat hold
    (heap_new hsz b1 (fun k hk => by
     rw [b5.heap k (by omega)]
     show ((W.alloc (.cells ROW 9)).drew.setCells W.heap.size n [.string kb]).heap[k]? = _
     rw [a5.heap k (by omega)]
     exact heap_alloc_get hk)) (Go.Abs.Rest.trans (W' := (W.alloc (.cells ROW 9)).drew) ⟨rfl, rfl⟩ (a5.rest.trans (Go.Abs.Rest.trans (W' := ((W.alloc (.cells ROW 9)).drew.setCells W.heap.size n [.string kb]).drew) ⟨rfl, rfl⟩ b5.rest))) (by rw [b2, a2, hRs]) (by omega) g2 (fun i s hs => by
    rcases ins_get hn hs with ⟨q1, q2⟩ | ⟨q1, q2⟩ | ⟨q1, q2⟩
    ·obtain ⟨v, h1, h2⟩ := csv i (by omega) s q2
     exact ⟨v, by rw [b3 i (fun j hj => by omega), a3 i (fun j hj => by simp at hj; omega), hRg i q1]; exact h1, h2⟩
    ·subst q1 q2
     refine ⟨_, ?_, kr⟩
     rw [b3 i (fun j hj => by omega)]
     have := a4 0 _ rfl (by omega); simpa using this
    ·have hi : i - 1 < l.length := (List.getElem?_eq_some_iff.1 q2).1
     obtain ⟨v, h1, h2⟩ := csv (i - 1) hi s q2
     refine ⟨v, ?_, h2⟩
     have := b4 (i - 1 - n) v (by rw [List.getElem?_drop, show n + (i - 1 - n) = i - 1 by omega]; exact h1) (by omega)
     rwa [show (n + 1) + (i - 1 - n) = i by omega] at this)
   rw [hlen] at h3 ⊢
   exact ⟨_, rfl, g', h1, h2, h3⟩
 ·obtain rfl : n = l.length := by omega
  by_cases hroom : l.length + 1 ≤ cap
  ·-- at the end, in place
   refine (Any2.slices_Insert_string_end_room lay_Lays2_n22 blk 0 l.length cap vb 0 1 1 [.string kb] W (by omega) hroom (by omega) rfl (fun j hj => by rw [Nat.zero_add, cb, Array.getElem?_eq_getElem (by omega)]; rfl) (fun j _ => by rw [Nat.zero_add]; exact fb _) cv one1).mono ?_
   rintro e W' ⟨rfl, rfl⟩
   obtain ⟨v1, a1, a2, a3, a4, a5⟩ := setCells_heap blk [.string kb] (0 + l.length) W vs _ _ ho.at'
   obtain ⟨g', h1, h2, h3⟩ := put_here (l' := l.take l.length ++ kb.data.toList :: l.drop l.length) hw hb hbf a5 a1 (by rw [a2, hvs]) (by omega) (by omega) (fun i s hs => by
    rcases ins_get hn hs with ⟨q1, q2⟩ | ⟨q1, q2⟩ | ⟨q1, q2⟩
    ·obtain ⟨v, h1, h2⟩ := ho.val i s q2
     exact ⟨v, by rw [a3 i (fun j hj => by simp at hj; omega)]; exact h1, h2⟩
    ·subst q1 q2
     exact ⟨_, by have := a4 0 _ rfl (by omega); simpa using this, kr⟩
    ·have hi : i - 1 < l.length := (List.getElem?_eq_some_iff.1 q2).1
     omega)
   rw [hlen] at h3 ⊢
   exact ⟨_, rfl, g', h1, h2, h3⟩
  ·-- at the end, somewhere else
   refine (Any2.slices_Insert_string_end_grow lay_Lays2_n22 (some ⟨blk, 0, none⟩) l.length cap vb 0 1 1 (vs.toList.take l.length) [.string kb] W (by omega) hcl (by omega) (by omega) csl rfl (fun h => by cases h) (fun a ha j v hj => by cases ha; rw [Addr.add_lit]; exact cs j v hj) cv one1).mono ?_
   rintro e W' ⟨rfl, rfl⟩
   have gt : rho2.t 9 = 9 := rfl
   rw [gt]
   have g1 := grownCap_ge W (l.length + 1) cap 9
   have g2 := grownCap_le_maxLen W (l.length + 1) cap 9 (by unfold maxLen; omega)
   generalize grownCap W (l.length + 1) cap 9 = G at g1 g2 ⊢
   obtain ⟨g', h1, h2, h3⟩ := put_there (l' := l.take l.length ++ kb.data.toList :: l.drop l.length) (A' := putH A tok (l.take l.length ++ kb.data.toList :: l.drop l.length)) (cap := G) hw rfl (putH_other A tok _) hat hold (W' := W.drew.alloc (.cells ((vs.toList.take l.length ++ [Value.string kb]).toArray ++ Builtin.zeroCells (Value.string ⟨#[]⟩).cells (G - (l.length + 1))) 9)) rfl (drewAlloc W _ _) (by
     simp only [Array.size_append, size_zeroCells, List.size_toArray, List.length_append, csl, List.length_cons, List.length_nil]
     simp only [Value.cells, List.size_toArray, List.length_cons, List.length_nil]
     omega) (by omega) g2 (fun i s hs => by
    rcases ins_get hn hs with ⟨q1, q2⟩ | ⟨q1, q2⟩ | ⟨q1, q2⟩
    ·obtain ⟨v, h1, h2⟩ := csv i (by omega) s q2
     exact ⟨v, by rw [Array.getElem?_append_left (by simp; omega), List.getElem?_toArray, List.getElem?_append_left (by omega)]; exact h1, h2⟩
    ·subst q1 q2
     refine ⟨_, ?_, kr⟩
     rw [Array.getElem?_append_left (by simp; omega), List.getElem?_toArray, List.getElem?_append_right (by omega), csl, Nat.sub_self]
     rfl
    ·have hi : i - 1 < l.length := (List.getElem?_eq_some_iff.1 q2).1
     omega)
   rw [hlen] at h3 ⊢
   exact ⟨_, rfl, g', h1, h2, h3⟩
theorem two_args {W : World} {g : Gh} {A : AHeap} {x y : AV} {vs : List Value} (h : RelL W g A [x, y] vs) : ∃ v u, vs = [v, u] ∧ RelV W g A x v ∧ RelV W g A y u := by
 obtain ⟨h1, h2⟩ := h
 match vs, h1 with
 | [v, u], _ => exact ⟨v, u, rfl, h2 0 x v rfl rfl, h2 1 y u rfl rfl⟩
 | [], h => simp at h
 | [_], h => simp at h
 | _ :: _ :: _ :: _, h => simp at h
theorem rowStrs_inv : ∀ {rows : List (List Dat)} {l : List (List UInt8)}, rowStrs rows = some l → rows = srow l
 | [], l, h => by cases h; rfl
 | [.str s] :: rs, l, h => by
   rw [rowStrs, Option.map_eq_some_iff] at h
   obtain ⟨l', h1, rfl⟩ := h
   have := rowStrs_inv h1
   simp only [srow] at this
   simp only [srow, List.map_cons, this]
theorem bs_answer {W1 : World} {g1 : Gh} {A : AHeap} {n : Int} {b : Bool} {v : Value} (h : RelV W1 g1 A (.tuple [.d (.int .i64 n), .d (.bool b)]) v) : v = .tuple #[.int .i64 n, .bool b] := by
 cases h with
 | tuple cs vs hl hr =>
   match vs, hl with
   | [x, y], _ =>
     have h0 := hr 0 _ _ rfl rfl
     have h1 := hr 1 _ _ rfl rfl
     cases h0 with
     | d _ _ h0 => cases h0; cases h1 with
       | d _ _ h1 => cases h1; rfl
theorem bs_calls {W : World} {g : Gh} {A : AHeap} {x : AV} {v : Value} {kb : ByteArray} {n : Int} {b : Bool} (hw : WRel W g A) (hv : RelV W g A x v) (h : acl C0 53 [x, .d (.str kb.data.toList)] A = some (.tuple [.d (.int .i64 n), .d (.bool b)], A)) :
  Calls Tryz.prog 53 #[v, .string kb] W fun e W1 => e = .returned (.tuple #[.int .i64 n, .bool b]) ∧ ∃ g1, WRel W1 g1 A ∧ Ev W g A W1 g1 A := by
 have := (acl_ok (c := C0) mixed (fun f h hf => by cases hf) _ _ _ _ _ h).2 W g [v, .string kb] hw ⟨rfl, fun i x v h1 h2 => by
  match i with
  | 0 => simp at h1 h2; subst h1; subst h2; exact hv
  | 1 => simp at h1 h2; subst h1; subst h2; exact .d _ _ (.str kb)
  | i + 2 => simp at h1⟩
 refine Calls.mono this ?_
 rintro e W1 ⟨v', g1, rfl, h1, h2, h3⟩
 exact ⟨by rw [bs_answer h1], g1, h2, h3⟩
theorem with_ok : CallOk1 Tryz.prog 170 (withFn 9) := by
 intro xs A x A' hx
 unfold withFn at hx
 split at hx
 ·rename_i tok len k
  split at hx
  case h_2 => cases hx
  rename_i b hb
  split at hx
  case h_2 => cases hx
  rename_i l hl
  split at hx
  case isFalse => cases hx
  rename_i hc
  obtain ⟨c1, c2, c3, c4, c5⟩ := hc
  cases hx
  subst c3
  refine ⟨⟨_, Tryz.func170, by kernel_rfl, by kernel_rfl⟩, fun W g vs hw hr => ?_⟩
  obtain ⟨v, u, rfl, hv, hu⟩ := two_args hr
  have hb' : A.bufs[tok]? = some ⟨9, 1, srow l, 0⟩ := by
   rw [hb]
   obtain ⟨be, bs, br, bf⟩ := b
   simp only at c1 c2 c4 hl
   rw [c1, c2, c4, rowStrs_inv hl]
  cases hu with
  | d _ _ hd =>
  cases hd with
  | str kb =>
  have hB := bs_calls hw hv (bsP0 kb.data.toList hb' c5)
  unfold withS
  cases hs : sIn l kb.data.toList with
  | true =>
    rw [hs] at hB
    refine (with_found v kb W _ _ hB).mono ?_
    rintro e W1 ⟨rfl, g1, w1, e1⟩
    have hA : (⟨A.objs, A.bufs.set tok ⟨9, 1, srow l, 0⟩⟩ : AHeap) = A := by rw [set_same hb']
    simp only [if_true]
    rw [hA]
    exact ⟨_, g1, rfl, e1.toEvV.relV hv, w1, e1⟩
  | false =>
    rw [hs] at hB
    simp only [Bool.false_eq_true, if_false]
    have hbl := (bsR_le l kb.data.toList 0 l.length (by omega)).2
    refine with_new v kb W _ _ _ hB ?_
    rintro W1 ⟨g1, w1, e1⟩
    have pl : Go.Abs.plainObj (.cells #[.string kb] 9) := by trivial
    have w2 := WRel.alloc w1 pl
    have e2 := Ev.alloc w1 pl
    have hv2 := (e1.trans e2).toEvV.relV hv
    obtain ⟨blk, cap, hve, hbf⟩ := own_bf w2 hv2 hb' (by simp [srow])
    have hsl : (srow l).length = l.length := by simp [srow]
    rw [hsl] at hve hbf
    subst hve
    have hvo : g1.own W1.heap.size = none := by
     cases ho : g1.own W1.heap.size with
     | none => rfl
     | some o => have := w1.lt _ _ ho; omega
    refine (ins_own (kb := kb) w2 hb' c5 hbf (heap_alloc_new W1 _) hvo hbl).mono ?_
    rintro e W3 ⟨r, rfl, g3, h1, h2, h3⟩
    exact ⟨r, rfl, r, g3, rfl, h3, h1, e1.trans (e2.trans h2)⟩
 ·rename_i k
  cases hx
  refine ⟨⟨_, Tryz.func170, by kernel_rfl, by kernel_rfl⟩, fun W g vs hw hr => ?_⟩
  obtain ⟨v, u, rfl, hv, hu⟩ := two_args hr
  cases hu with
  | d _ _ hd =>
  cases hd with
  | str kb =>
  have hB := bs_calls hw hv (bs0P0 kb.data.toList)
  cases hv
  refine with_new _ kb W _ _ _ hB ?_
  rintro W1 ⟨g1, w1, e1⟩
  have pl : Go.Abs.plainObj (.cells #[.string kb] 9) := by trivial
  have w2 := WRel.alloc w1 pl
  have e2 := Ev.alloc w1 pl
  have hvb : (W1.alloc (.cells #[.string kb] 9)).heap[W1.heap.size]? = some (.cells #[.string kb] 9 (0, 0)) := heap_alloc_new W1 _
  refine (Any2.slices_Insert_string_end_grow lay_Lays2_n22 none 0 0 W1.heap.size 0 1 1 [] [.string kb] (W1.alloc (.cells #[.string kb] 9)) (by omega) (by omega) (by omega) (by omega) rfl rfl (fun _ => rfl) (fun a ha => by cases ha) (fun j v hj => by
   rw [Nat.zero_add, cell_of_row _ _ j _ _ _ hvb, ← Array.getElem?_toList]; exact hj) (by simp [Value.oneCell'])).mono ?_
  rintro e W3 ⟨rfl, rfl⟩
  have gt : rho2.t 9 = 9 := rfl
  rw [gt]
  have g1' := grownCap_ge (W1.alloc (.cells #[.string kb] 9)) (0 + 1) 0 9
  have g2' := grownCap_le_maxLen (W1.alloc (.cells #[.string kb] 9)) (0 + 1) 0 9 (by unfold maxLen; omega)
  generalize grownCap (W1.alloc (.cells #[.string kb] 9)) (0 + 1) 0 9 = G at g1' g2' ⊢
  obtain ⟨g', h1, h2, h3⟩ := put_there (l' := [kb.data.toList]) (A' := ⟨A.objs, A.bufs ++ [⟨9, 1, [[.str kb.data.toList]], 0⟩]⟩) (tok := A.bufs.length) (cap := G) w2 rfl (fun t ht => by
    rcases Nat.lt_or_ge t A.bufs.length with h | h
    ·simp [List.getElem?_append_left h]
    ·rw [List.getElem?_eq_none (by simp; omega), List.getElem?_eq_none h]) (by simp [srow]) (fun b hb => by simp at hb) (W' := (W1.alloc (.cells #[.string kb] 9)).drew.alloc (.cells (([] ++ [Value.string kb]).toArray ++ Builtin.zeroCells (Value.string ⟨#[]⟩).cells (G - (0 + 1))) 9)) rfl (drewAlloc _ _ _) (by
    simp only [Array.size_append, size_zeroCells, List.size_toArray, List.nil_append, List.length_cons, List.length_nil]
    simp only [Value.cells, List.size_toArray, List.length_cons, List.length_nil]
    omega) (by simpa using g1') g2' (fun i s hs => by
   cases i with
   | zero =>
     simp at hs
     subst hs
     exact ⟨.string kb, by rw [Array.getElem?_append_left (by simp)]; rfl, .str kb⟩
   | succ i => simp at hs)
  exact ⟨_, rfl, _, g', rfl, h3, h1, e1.trans (e2.trans h2)⟩
 ·cases hx
end Go.Proofs.YtpbdjgdmhfibmaaGreatDoor
-- CTX C0
namespace Go.Proofs.YtpbdjgdmhfibmaaGreatDoor
open Go.Abs
attribute [local congr] ite_congr
set_option maxRecDepth 100000
theorem take_mod {α : Type} (l : List α) (b : α) (f : α → α) : ((l ++ [b]).modify l.length f).take l.length = l := by
 apply List.ext_getElem?
 intro i
 rw [List.getElem?_take]
 split
 ·rename_i h
  rw [List.getElem?_modify, List.getElem?_append_left h]
  have : ¬ l.length = i := by omega
  simp [this]
 ·rename_i h
  rw [List.getElem?_eq_none (by omega)]
theorem cl0P (r : List Dat) (rs : List (List Dat)) (h : (r :: rs).all (fun r => r.length == 4) = true) (hl : (r :: rs).length ≤ 4194304) (A : AHeap) : acl C0 31 [.d (.slice (r :: rs))] A = some (.d (.slice (r :: rs)), A) := by
 have hb : abin Tryz.prog .eql 27 (.d (.slice (r :: rs))) .nilS = some (.d (.bool false)) := by
  simp only [abin, elem_27]; rfl
 have ha : aappend Tryz.prog 71 4 A (.full []) (r :: rs) = some (.own A.bufs.length (rs.length + 1), ⟨A.objs, A.bufs ++ [⟨71, 4, r :: rs, 0⟩]⟩) := by
  unfold aappend
  rw [if_pos ⟨room_71_4, h⟩]
  simp only [List.length_nil, Nat.zero_add, List.nil_append]
  rw [if_neg (by simp), if_pos ⟨hl, by simp⟩]
  rfl
 have fin : afinR C0 31 A ⟨A.objs, A.bufs ++ [⟨71, 4, r :: rs, 0⟩]⟩ (some (.own A.bufs.length (rs.length + 1))) = some (.d (.slice (r :: rs)), A) := by
  have k : C0.own 31 = false := by rfl
  have e1 : arows ⟨A.objs, A.bufs ++ [⟨71, 4, r :: rs, 0⟩]⟩ (.own A.bufs.length (rs.length + 1)) = some (r :: rs) := by simp [arows]
  simp only [afinR, Option.map_some, afinish, k, Bool.false_eq_true, if_false, acleanR, acleanV, aclean, e1]
  unfold acut
  simp [AHeap.freeze, AV.noptr, AV.noptr2, AV.noptr1, take_mod]
 rw [kC0 Tryz.func31 rfl Tryz.ntmps31 Tryz.results31]
 simp only [go_sem, acondK_bool, hb, ha, fin]
end Go.Proofs.YtpbdjgdmhfibmaaGreatDoor
namespace Go.Proofs.YtpbdjgdmhfibmaaGreatDoor
open Go.Abs Go.RowKit Go.Shelf
set_option maxRecDepth 100000
theorem clone_nil (cap : Nat) (W : World) : Calls Tryz.prog 31 #[.slice none 0 cap] W fun e W' => e = .returned (.slice none 0 0) ∧ W' = W := by
 have q : ∀ (w : World) (a : Option Addr) (n c n' c' : Nat), (binOp .eql 27 (.slice a n c) (.slice none n' c')).run Tryz.prog w = .ok (.bool a.isNone) w := fun w a n c n' c' => Lib.run_eql_slice_nil w _ 71 a n c n' c' (by kernel_rfl)
 go_enter Tryz.func31, Tryz.ntmps31
 go_wp2
 first | exact ⟨rfl, rfl⟩ | (go_ret; exact ⟨rfl, rfl⟩)
theorem clone_zero (b : Addr) (cap : Nat) (W : World) : Calls Tryz.prog 31 #[.slice (some b) 0 cap] W fun e W' => e = .returned (.slice (some ⟨W.heap.size, 0, none⟩) 0 0) ∧ W' = W.alloc (.cells #[] 71) := by
 have q : ∀ (w : World) (a : Option Addr) (n c n' c' : Nat), (binOp .eql 27 (.slice a n c) (.slice none n' c')).run Tryz.prog w = .ok (.bool a.isNone) w := fun w a n c n' c' => Lib.run_eql_slice_nil w _ 71 a n c n' c' (by kernel_rfl)
 have hz : ∀ (w : World) (s : Option Addr) (ty : TypeId), (Builtin.append_ #[27, 27] ty #[.slice s 0 0, .slice (some b) 0 cap]).run Tryz.prog w = .ok (.slice s 0 0) w := fun w s ty => run_append_none (W := w) (P := Tryz.prog) 27 ty 71 (n := 4) (agg := true) (by kernel_rfl) (by kernel_rfl) s 0 0 (Nat.le_refl _) (some b) cap
 go_enter Tryz.func31, Tryz.ntmps31
 go_wp2
 go_ret
 exact ⟨rfl, rfl⟩
theorem one_arg {W : World} {g : Gh} {A : AHeap} {x : AV} {vs : List Value} (h : RelL W g A [x] vs) : ∃ v, vs = [v] ∧ RelV W g A x v := by
 match vs, h with
 | [v], h => exact ⟨v, rfl, h.2 0 _ _ rfl rfl⟩
 | [], h => have := h.1; simp at this
 | _ :: _ :: _, h => have := h.1; simp at this
theorem clone_ok : CallOk1 Tryz.prog 31 (cloneFn 4) := by
 intro xs A x A' hx
 unfold cloneFn at hx
 split at hx
 case h_2 => cases hx
 rename_i rows hcl
 split at hx
 case isFalse => cases hx
 rename_i hc
 obtain ⟨hall, hlen⟩ := hc
 cases hx
 refine ⟨⟨_, Tryz.func31, by kernel_rfl, by kernel_rfl⟩, fun W g vs hw hr => ?_⟩
 obtain ⟨g1, r1, w1, e1⟩ := acleanVs_rel hw hr
 rw [hcl] at r1
 obtain ⟨v, rfl, hv⟩ := one_arg r1
 cases rows with
 | cons r rs =>
   have := (acl_ok (c := C0) mixed (fun f h hf => by cases hf) _ _ _ _ _ (cl0P r rs hall hlen (acleanVs A xs).2)).2 W g1 [v] w1 r1
   refine Calls.mono this ?_
   rintro e W1 ⟨v', g2, rfl, h1, h2, h3⟩
   exact ⟨v', g2, rfl, h1, h2, e1.trans h3⟩
 | nil =>
   have hs : ∃ a cap, v = .slice a 0 cap := by
    cases hv with
    | d _ _ hd =>
    generalize hdd : Dat.slice [] = dd at hd
    cases hd with
    | empty a cap => exact ⟨a, cap, rfl⟩
    | slice rows b o cap => cases hdd; exact ⟨_, cap, rfl⟩
    | _ => cases hdd
   obtain ⟨a, cap, rfl⟩ := hs
   cases a with
   | none =>
     refine Calls.mono (clone_nil cap W) ?_
     rintro e W' ⟨rfl, rfl⟩
     exact ⟨_, g1, rfl, .d _ _ (.empty none 0), w1, e1⟩
   | some b =>
     refine Calls.mono (clone_zero b cap W) ?_
     rintro e W' ⟨rfl, rfl⟩
     have pl : Go.Abs.plainObj (.cells #[] 71) := by trivial
     exact ⟨_, g1, rfl, .d _ _ (.empty _ 0), WRel.alloc w1 pl, e1.trans (Ev.alloc w1 pl)⟩
end Go.Proofs.YtpbdjgdmhfibmaaGreatDoor
namespace Go.Proofs.YtpbdjgdmhfibmaaGreatDoor
open Go.RowKit Go.Shelf
def rho : Ren := ⟨fun n => bif Nat.beq n 0 then 0 else bif Nat.beq n 1 then 1 else bif Nat.beq n 2 then 2 else bif Nat.beq n 106 then 148 else bif Nat.beq n 109 then 138 else bif Nat.beq n 110 then 97 else bif Nat.beq n 122 then 232 else bif Nat.beq n 125 then 174 else bif Nat.beq n 128 then 206 else bif Nat.beq n 129 then 207 else bif Nat.beq n 173 then 212 else bif Nat.beq n 189 then 144 else bif Nat.beq n 213 then 176 else bif Nat.beq n 215 then 228 else bif Nat.beq n 216 then 203 else bif Nat.beq n 246 then 231 else bif Nat.beq n 257 then 173 else bif Nat.beq n 265 then 208 else bif Nat.beq n 283 then 237 else bif Nat.beq n 284 then 238 else bif Nat.beq n 285 then 239 else bif Nat.beq n 286 then 240 else bif Nat.beq n 294 then 197 else bif Nat.beq n 295 then 198 else bif Nat.beq n 296 then 199 else bif Nat.beq n 297 then 200 else bif Nat.beq n 298 then 201 else bif Nat.beq n 299 then 202 else bif Nat.beq n 300 then 204 else bif Nat.beq n 301 then 205 else bif Nat.beq n 308 then 91 else bif Nat.beq n 317 then 243 else bif Nat.beq n 318 then 244 else bif Nat.beq n 319 then 245 else bif Nat.beq n 320 then 246 else bif Nat.beq n 328 then 223 else bif Nat.beq n 329 then 224 else bif Nat.beq n 330 then 225 else bif Nat.beq n 331 then 226 else bif Nat.beq n 332 then 227 else bif Nat.beq n 336 then 130 else bif Nat.beq n 337 then 248 else bif Nat.beq n 338 then 249 else bif Nat.beq n 343 then 236 else bif Nat.beq n 347 then 250 else bif Nat.beq n 348 then 251 else bif Nat.beq n 349 then 252 else bif Nat.beq n 350 then 253 else bif Nat.beq n 351 then 254 else bif Nat.beq n 352 then 255 else bif Nat.beq n 353 then 256 else bif Nat.beq n 354 then 257 else bif Nat.beq n 355 then 258 else bif Nat.beq n 356 then 259 else bif Nat.beq n 357 then 260 else bif Nat.beq n 358 then 261 else bif Nat.beq n 359 then 262 else bif Nat.beq n 360 then 263 else bif Nat.beq n 361 then 264 else bif Nat.beq n 366 then 265 else bif Nat.beq n 367 then 271 else 0, fun n => bif Nat.beq n 0 then 0 else bif Nat.beq n 1 then 1 else bif Nat.beq n 2 then 2 else bif Nat.beq n 3 then 3 else bif Nat.beq n 4 then 4 else bif Nat.beq n 5 then 5 else bif Nat.beq n 6 then 6 else bif Nat.beq n 7 then 7 else bif Nat.beq n 8 then 8 else bif Nat.beq n 9 then 9 else bif Nat.beq n 10 then 10 else bif Nat.beq n 11 then 11 else bif Nat.beq n 12 then 12 else bif Nat.beq n 13 then 13 else bif Nat.beq n 14 then 14 else bif Nat.beq n 15 then 15 else bif Nat.beq n 16 then 16 else bif Nat.beq n 17 then 17 else bif Nat.beq n 18 then 18 else bif Nat.beq n 19 then 19 else bif Nat.beq n 20 then 20 else bif Nat.beq n 21 then 21 else bif Nat.beq n 22 then 154 else bif Nat.beq n 27 then 208 else bif Nat.beq n 28 then 72 else bif Nat.beq n 31 then 33 else bif Nat.beq n 32 then 201 else bif Nat.beq n 33 then 66 else bif Nat.beq n 35 then 205 else bif Nat.beq n 37 then 288 else bif Nat.beq n 40 then 209 else bif Nat.beq n 41 then 193 else bif Nat.beq n 43 then 279 else bif Nat.beq n 46 then 153 else bif Nat.beq n 47 then 237 else bif Nat.beq n 51 then 262 else bif Nat.beq n 52 then 261 else bif Nat.beq n 53 then 233 else bif Nat.beq n 54 then 263 else bif Nat.beq n 73 then 123 else bif Nat.beq n 80 then 299 else bif Nat.beq n 81 then 282 else bif Nat.beq n 83 then 285 else bif Nat.beq n 84 then 266 else bif Nat.beq n 100 then 292 else bif Nat.beq n 101 then 37 else bif Nat.beq n 103 then 210 else bif Nat.beq n 104 then 149 else bif Nat.beq n 111 then 130 else bif Nat.beq n 112 then 258 else bif Nat.beq n 114 then 278 else bif Nat.beq n 127 then 308 else bif Nat.beq n 131 then 111 else bif Nat.beq n 134 then 236 else bif Nat.beq n 164 then 313 else bif Nat.beq n 171 then 286 else bif Nat.beq n 172 then 287 else bif Nat.beq n 173 then 289 else bif Nat.beq n 174 then 290 else bif Nat.beq n 181 then 253 else bif Nat.beq n 182 then 254 else bif Nat.beq n 183 then 255 else bif Nat.beq n 184 then 256 else bif Nat.beq n 185 then 257 else bif Nat.beq n 186 then 259 else bif Nat.beq n 187 then 260 else bif Nat.beq n 211 then 293 else bif Nat.beq n 212 then 294 else bif Nat.beq n 213 then 295 else bif Nat.beq n 218 then 272 else bif Nat.beq n 219 then 273 else bif Nat.beq n 220 then 274 else bif Nat.beq n 221 then 275 else bif Nat.beq n 222 then 276 else bif Nat.beq n 223 then 277 else bif Nat.beq n 228 then 283 else bif Nat.beq n 229 then 264 else bif Nat.beq n 230 then 284 else bif Nat.beq n 232 then 297 else bif Nat.beq n 233 then 298 else bif Nat.beq n 238 then 300 else bif Nat.beq n 239 then 301 else bif Nat.beq n 240 then 302 else bif Nat.beq n 241 then 303 else bif Nat.beq n 242 then 304 else bif Nat.beq n 243 then 305 else bif Nat.beq n 244 then 306 else bif Nat.beq n 245 then 307 else bif Nat.beq n 246 then 309 else bif Nat.beq n 247 then 310 else bif Nat.beq n 248 then 311 else bif Nat.beq n 249 then 312 else 0, fun n => bif Nat.beq n 17 then 1 else bif Nat.beq n 18 then 2 else bif Nat.beq n 19 then 3 else 0⟩
theorem mixedP_rho : Tryz.prog.follows .mixedOrders = true := mixed
set_option maxRecDepth 100000 in
theorem lay_Lays_n213 : Lays.n213 Tryz.prog rho where
 mixed := mixedP_rho
 f213 := by kernel_rfl
 f265 := by kernel_rfl
 t3 := by kernel_rfl
 a3 := fun _ => by kernel_rfl
 z3 := fun _ => by kernel_rfl
 v3 := fun _ => by kernel_rfl
 t9 := by kernel_rfl
 a9 := fun _ => by kernel_rfl
 z9 := fun _ => by kernel_rfl
 v9 := fun _ => by kernel_rfl
set_option maxRecDepth 100000 in
theorem lay_LaysM_n173 : LaysM.n173 Tryz.prog rho where
 mixed := mixedP_rho
 f129 := by kernel_rfl
 f173 := by kernel_rfl
 f246 := by kernel_rfl
 f283 := by kernel_rfl
 f284 := by kernel_rfl
 f285 := by kernel_rfl
 f286 := by kernel_rfl
 f317 := by kernel_rfl
 f318 := by kernel_rfl
 f319 := by kernel_rfl
 f320 := by kernel_rfl
 f337 := by kernel_rfl
 f338 := by kernel_rfl
 t0 := by kernel_rfl
 a0 := fun _ => by kernel_rfl
 z0 := fun _ => by kernel_rfl
 v0 := fun _ => by kernel_rfl
 t2 := by kernel_rfl
 a2 := fun _ => by kernel_rfl
 z2 := fun _ => by kernel_rfl
 v2 := fun _ => by kernel_rfl
 t3 := by kernel_rfl
 a3 := fun _ => by kernel_rfl
 z3 := fun _ => by kernel_rfl
 v3 := fun _ => by kernel_rfl
 t4 := by kernel_rfl
 a4 := fun _ => by kernel_rfl
 z4 := fun _ => by kernel_rfl
 v4 := fun _ => by kernel_rfl
 t5 := by kernel_rfl
 a5 := fun _ => by kernel_rfl
 z5 := fun _ => by kernel_rfl
 v5 := fun _ => by kernel_rfl
 t9 := by kernel_rfl
 a9 := fun _ => by kernel_rfl
 z9 := fun _ => by kernel_rfl
 v9 := fun _ => by kernel_rfl
 t20 := by kernel_rfl
 a20 := fun _ => by kernel_rfl
 z20 := fun _ => by kernel_rfl
 v20 := fun _ => by kernel_rfl
 t37 := by kernel_rfl
 a37 := fun _ => by kernel_rfl
 z37 := fun _ => by kernel_rfl
 v37 := fun _ => by kernel_rfl
 t46 := by kernel_rfl
 a46 := fun _ => by kernel_rfl
 z46 := fun _ => by kernel_rfl
 v46 := fun _ => by kernel_rfl
 t51 := by kernel_rfl
 a51 := fun _ => by kernel_rfl
 z51 := fun _ => by kernel_rfl
 v51 := fun _ => by kernel_rfl
 t53 := by kernel_rfl
 a53 := fun _ => by kernel_rfl
 z53 := fun _ => by kernel_rfl
 v53 := fun _ => by kernel_rfl
 t171 := by kernel_rfl
 a171 := fun _ => by kernel_rfl
 z171 := fun _ => by kernel_rfl
 v171 := fun _ => by kernel_rfl
 t173 := by kernel_rfl
 a173 := fun _ => by kernel_rfl
 z173 := fun _ => by kernel_rfl
 v173 := fun _ => by kernel_rfl
 t212 := by kernel_rfl
 a212 := fun _ => by kernel_rfl
 z212 := fun _ => by kernel_rfl
 v212 := fun _ => by kernel_rfl
 t213 := by kernel_rfl
 a213 := fun _ => by kernel_rfl
 z213 := fun _ => by kernel_rfl
 t232 := by kernel_rfl
 a232 := fun _ => by kernel_rfl
 z232 := fun _ => by kernel_rfl
 v232 := fun _ => by kernel_rfl
 t233 := by kernel_rfl
 a233 := fun _ => by kernel_rfl
 z233 := fun _ => by kernel_rfl
 v233 := fun _ => by kernel_rfl
 g17 := by kernel_rfl
 g18 := by kernel_rfl
 g19 := by kernel_rfl
 i0 := by kernel_rfl
 i2 := by kernel_rfl
 i3 := by kernel_rfl
 i4 := by kernel_rfl
 i5 := by kernel_rfl
 i9 := by kernel_rfl
 i20 := by kernel_rfl
 i37 := by kernel_rfl
 i46 := by kernel_rfl
 i51 := by kernel_rfl
 i53 := by kernel_rfl
 i171 := by kernel_rfl
 i173 := by kernel_rfl
 i212 := by kernel_rfl
 i232 := by kernel_rfl
 i233 := by kernel_rfl
 m17 := by kernel_rfl
 m18 := by kernel_rfl
 m19 := by kernel_rfl
end Go.Proofs.YtpbdjgdmhfibmaaGreatDoor
namespace Go.Proofs.YtpbdjgdmhfibmaaGreatDoor
open Go.Abs
attribute [local congr] ite_congr
set_option maxRecDepth 100000
structure Stp where
 st : Int
 code : Int
 miss : Bytes
def Stp.av (s : Stp) : AV := .agg [.d (.int .i64 s.st), .d (.int .i64 s.code), .d (.slice []), .d (.str s.miss)]
def abt (code : Int) : Stp := ⟨2, code, []⟩
def rst (key : Bytes) : Stp := ⟨3, 0, key⟩
inductive px : PXF where
 | abort (code : Int) (A : AHeap) : px 122 [.d (.int .i64 code)] A (abt code).av A
 | restart (key : Bytes) (A : AHeap) : px 169 [.d (.str key)] A (rst key).av A
theorem pxNo : PxNo C px := by
 intro f args A x A' h
 cases h with
 | abort code => rw [acl_ext (c := C) (f := 122) (g := failFn) rfl]; rfl
 | restart key => rw [acl_ext (c := C) (f := 169) (g := failFn) rfl]; rfl
@[go_sem] theorem po_callC {f nt : Nat} {rs : List ResultVar} {A A0 : AHeap} {R : PR} {ks : List KF} {env : AEnv} {ops : Array Oper} {dst : Option Tmp} {gop : Operand} {xs : Array Operand} {ts : Array TypeId} {ty : TypeId} {pos : String} {after : Array Edge} {gd : Option (Nat × Bool)} {rest : List Oper} :
  pops ⟨⟨C, f, nt, rs, A0⟩, px, R⟩ ks ops (⟨dst, .call ⟨.value gop, xs, ts⟩, ty, pos, after, gd⟩ :: rest) env A =
   pselG (aguard ops env ⟨dst, .call ⟨.value gop, xs, ts⟩, ty, pos, after, gd⟩) (pcallK ⟨⟨C, f, nt, rs, A0⟩, px, R⟩ A (fun v B => pput ⟨⟨C, f, nt, rs, A0⟩, px, R⟩ ks ops rest (aputS nt dst env (some (.v v, B)))) (aeval env gop) (aevals env xs.toList)) (pput ⟨⟨C, f, nt, rs, A0⟩, px, R⟩ ks ops rest (aput0 nt dst env A)) :=
  po_call (p := ⟨⟨C, f, nt, rs, A0⟩, px, R⟩) pxNo
theorem pcl_px {f : FuncId} {args : List AV} {A A' : AHeap} {x : AV} {R : PR} (h : px f args A x A') (hr : R x A') : pcl C px f args A R := ⟨x, A', .ext h, hr⟩
theorem abortP {code : Int} {A : AHeap} {R : PR} (h : R (abt code).av A) : pcl C px 122 [.d (.int .i64 code)] A R := pcl_px (.abort code A) h
theorem restartP {key : Bytes} {A : AHeap} {R : PR} (h : R (rst key).av A) : pcl C px 169 [.d (.str key)] A R := pcl_px (.restart key A) h
theorem abortN (code : Int) (A : AHeap) : acl C 122 [.d (.int .i64 code)] A = none := by rw [acl_ext (c := C) (f := 122) (g := failFn) rfl]; rfl
theorem restartN (key : Bytes) (A : AHeap) : acl C 169 [.d (.str key)] A = none := by rw [acl_ext (c := C) (f := 169) (g := failFn) rfl]; rfl
attribute [go_sem] abortN restartN
@[go_sem] theorem pg_none {ops : Array Oper} {env : AEnv} {dst : Option Tmp} {op : Op} {ty : TypeId} {pos : String} {after : Array Edge} : aguard ops env ⟨dst, op, ty, pos, after, none⟩ = some true := by rfl
theorem post_same {f nt : Nat} {rs : List ResultVar} {A : AHeap} {R : PR} {s : Stp} (ho : C.own f = false) : (⟨⟨C, f, nt, rs, A⟩, px, R⟩ : PF).post s.av A ↔ R s.av A := by
 unfold PF.post afinish
 simp only [ho, Bool.false_eq_true, if_false]
 have : acleanR A s.av = (s.av, A) := by rfl
 rw [this, acut_same (by rfl)]
theorem mustT (A : AHeap) : acl C 124 [.d (.bool true)] A = some (.tuple [], A) := by
 rw [kC Tryz.func124 rfl Tryz.ntmps124 Tryz.results124]
 simp only [go_sem, acondK_bool]
theorem mustF (A : AHeap) {R : PR} (h : R (abt 1009).av A) : pcl C px 124 [.d (.bool false)] A R := by
 refine pC Tryz.func124 rfl Tryz.ntmps124 Tryz.results124 ?_
 simp only [go_sem, acondK_bool]
 exact abortP ((post_same rfl).2 h)
theorem mustN (A : AHeap) : acl C 124 [.d (.bool false)] A = none := pcl_no pxNo (mustF A (R := fun _ _ => True) trivial)
theorem i64_wrap (n : Int) : i64 (IntKind.i64.wrap n) := by
 exact i64_of_wf (Go.wf_wrap .i64 n)
def addS (a b : Int) : Int × Int := if ((decide (0 < b) && decide (IntKind.i64.wrap (a + b) < a)) || (decide (b < 0) && decide (a < IntKind.i64.wrap (a + b)))) = true then (0, 3) else (IntKind.i64.wrap (a + b), 0)
theorem addP (a b : Int) (A : AHeap) : acl C 214 [.d (.int .i64 a), .d (.int .i64 b)] A = some (.tuple [.d (.int .i64 (addS a b).1), .d (.int .i64 (addS a b).2)], A) := by
 rw [kC Tryz.func214 rfl Tryz.ntmps214 Tryz.results214]
 unfold addS
 cases h1 : decide (0 < b) with
 | true =>
   cases h2 : decide (IntKind.i64.wrap (a + b) < a) with
   | true => simp only [go_sem, acondK_bool, h1, h2]
   | false =>
     cases h3 : decide (b < 0) with
     | true =>
       cases h4 : decide (a < IntKind.i64.wrap (a + b)) with
       | true => simp only [go_sem, acondK_bool, h1, h2, h3, h4]
       | false => simp only [go_sem, acondK_bool, h1, h2, h3, h4]
     | false => simp only [go_sem, acondK_bool, h1, h2, h3]
 | false =>
   cases h3 : decide (b < 0) with
   | true =>
     cases h4 : decide (a < IntKind.i64.wrap (a + b)) with
     | true => simp only [go_sem, acondK_bool, h1, h3, h4]
     | false => simp only [go_sem, acondK_bool, h1, h3, h4]
   | false => simp only [go_sem, acondK_bool, h1, h3]
def subS (a b : Int) : Int × Int := if ((decide (0 < b) && decide (a < IntKind.i64.wrap (a - b))) || (decide (b < 0) && decide (IntKind.i64.wrap (a - b) < a))) = true then (0, 3) else (IntKind.i64.wrap (a - b), 0)
theorem subP (a b : Int) (A : AHeap) : acl C 215 [.d (.int .i64 a), .d (.int .i64 b)] A = some (.tuple [.d (.int .i64 (subS a b).1), .d (.int .i64 (subS a b).2)], A) := by
 rw [kC Tryz.func215 rfl Tryz.ntmps215 Tryz.results215]
 unfold subS
 cases h1 : decide (0 < b) with
 | true =>
   cases h2 : decide (a < IntKind.i64.wrap (a - b)) with
   | true => simp only [go_sem, acondK_bool, h1, h2]
   | false =>
     cases h3 : decide (b < 0) with
     | true =>
       cases h4 : decide (IntKind.i64.wrap (a - b) < a) with
       | true => simp only [go_sem, acondK_bool, h1, h2, h3, h4]
       | false => simp only [go_sem, acondK_bool, h1, h2, h3, h4]
     | false => simp only [go_sem, acondK_bool, h1, h2, h3]
 | false =>
   cases h3 : decide (b < 0) with
   | true =>
     cases h4 : decide (IntKind.i64.wrap (a - b) < a) with
     | true => simp only [go_sem, acondK_bool, h1, h3, h4]
     | false => simp only [go_sem, acondK_bool, h1, h3, h4]
   | false => simp only [go_sem, acondK_bool, h1, h3]
def negS (a : Int) : Int × Int := if decide (a = -9223372036854775808) = true then (0, 3) else (IntKind.i64.wrap (0 - a), 0)
theorem negP (a : Int) (A : AHeap) : acl C 188 [.d (.int .i64 a)] A = some (.tuple [.d (.int .i64 (negS a).1), .d (.int .i64 (negS a).2)], A) := by
 rw [kC Tryz.func188 rfl Tryz.ntmps188 Tryz.results188]
 unfold negS
 cases h1 : decide (a = -9223372036854775808) with
 | true => simp only [go_sem, acondK_bool, h1]
 | false => simp only [go_sem, acondK_bool, h1]
def mulS (a b : Int) : Int × Int :=
 if (decide (a = 0) || decide (b = 0)) = true then (0, 0) else if decide (a = -1) = true then negS b else if decide (b = -1) = true then negS a
 else if decide (IntKind.i64.wrap (Int.tdiv (IntKind.i64.wrap (a * b)) b) = a) = true then (IntKind.i64.wrap (a * b), 0) else (0, 3)
theorem mulP (a b : Int) (A : AHeap) : acl C 216 [.d (.int .i64 a), .d (.int .i64 b)] A = some (.tuple [.d (.int .i64 (mulS a b).1), .d (.int .i64 (mulS a b).2)], A) := by
 have n1 := negP a A
 have n2 := negP b A
 rw [kC Tryz.func216 rfl Tryz.ntmps216 Tryz.results216]
 unfold mulS
 cases h1 : decide (a = 0) with
 | true => simp only [go_sem, acondK_bool, h1]
 | false =>
 cases h2 : decide (b = 0) with
 | true => simp only [go_sem, acondK_bool, h1, h2]
 | false =>
 cases h3 : decide (a = -1) with
 | true => simp only [go_sem, acondK_bool, h1, h2, h3, n2]
 | false =>
 cases h4 : decide (b = -1) with
 | true => simp only [go_sem, acondK_bool, h1, h2, h3, h4, n1]
 | false =>
 have h2' : ¬ b = 0 := of_decide_eq_false h2
 cases h5 : decide (IntKind.i64.wrap (Int.tdiv (IntKind.i64.wrap (a * b)) b) = a) with
 | true => simp only [go_sem, acondK_bool, h1, h2, h3, h4, h5, b_iquo h2']
 | false => simp only [go_sem, acondK_bool, h1, h2, h3, h4, h5, b_iquo h2']
def divS (a b : Int) : Int × Int :=
 if decide (b = 0) = true then (0, 4) else if decide (b = -1) = true then negS a
 else if decide (a.tmod b = 0) = true then (IntKind.i64.wrap (a.tdiv b), 0)
 else if (decide (a < 0) == decide (b < 0)) = true then (IntKind.i64.wrap (a.tdiv b), 0) else (IntKind.i64.wrap (IntKind.i64.wrap (a.tdiv b) - 1), 0)
theorem divP (a b : Int) (A : AHeap) : acl C 217 [.d (.int .i64 a), .d (.int .i64 b)] A = some (.tuple [.d (.int .i64 (divS a b).1), .d (.int .i64 (divS a b).2)], A) := by
 have n1 := negP a A
 rw [kC Tryz.func217 rfl Tryz.ntmps217 Tryz.results217]
 unfold divS
 cases h1 : decide (b = 0) with
 | true => simp only [go_sem, acondK_bool, h1]
 | false =>
 have h1' : ¬ b = 0 := of_decide_eq_false h1
 cases h2 : decide (b = -1) with
 | true => simp only [go_sem, acondK_bool, h1, h2, n1]
 | false =>
 cases h3 : decide (a.tmod b = 0) with
 | true => simp only [go_sem, acondK_bool, h1, h2, h3, b_iquo h1', b_irem h1']
 | false =>
 cases h4 : decide (a < 0) with
 | true =>
   cases h5 : decide (b < 0) with
   | true => simp only [go_sem, acondK_bool, h1, h2, h3, h4, h5, b_iquo h1', b_irem h1']
   | false => simp only [go_sem, acondK_bool, h1, h2, h3, h4, h5, b_iquo h1', b_irem h1']
 | false =>
   cases h5 : decide (b < 0) with
   | true => simp only [go_sem, acondK_bool, h1, h2, h3, h4, h5, b_iquo h1', b_irem h1']
   | false => simp only [go_sem, acondK_bool, h1, h2, h3, h4, h5, b_iquo h1', b_irem h1']
def modS (a b : Int) : Int × Int :=
 if decide (b = 0) = true then (0, 4) else if decide (b = -1) = true then (0, 0)
 else if decide (a.tmod b = 0) = true then (a.tmod b, 0)
 else if (decide (a.tmod b < 0) == decide (b < 0)) = true then (a.tmod b, 0) else (IntKind.i64.wrap (a.tmod b + b), 0)
theorem modP (a b : Int) (A : AHeap) : acl C 218 [.d (.int .i64 a), .d (.int .i64 b)] A = some (.tuple [.d (.int .i64 (modS a b).1), .d (.int .i64 (modS a b).2)], A) := by
 rw [kC Tryz.func218 rfl Tryz.ntmps218 Tryz.results218]
 unfold modS
 cases h1 : decide (b = 0) with
 | true => simp only [go_sem, acondK_bool, h1]
 | false =>
 have h1' : ¬ b = 0 := of_decide_eq_false h1
 cases h2 : decide (b = -1) with
 | true => simp only [go_sem, acondK_bool, h1, h2]
 | false =>
 cases h3 : decide (a.tmod b = 0) with
 | true => simp only [go_sem, acondK_bool, h1, h2, h3, b_irem h1']
 | false =>
 cases h4 : decide (a.tmod b < 0) with
 | true =>
   cases h5 : decide (b < 0) with
   | true => simp only [go_sem, acondK_bool, h1, h2, h3, h4, h5, b_irem h1']
   | false => simp only [go_sem, acondK_bool, h1, h2, h3, h4, h5, b_irem h1']
 | false =>
   cases h5 : decide (b < 0) with
   | true => simp only [go_sem, acondK_bool, h1, h2, h3, h4, h5, b_irem h1']
   | false => simp only [go_sem, acondK_bool, h1, h2, h3, h4, h5, b_irem h1']
inductive Oc where
 | ok (v : Vl)
 | stop (s : Stp)
def Vl.av (v : Vl) : AV := .agg [.d (.int .i64 v.kind), .d (.int .i64 v.n), .d (.str v.s)]
def Ans (f : FuncId) (args : List AV) (A : AHeap) : Oc → Prop
 | .ok v => acl C f args A = some (v.av, A)
 | .stop s => ∀ R : PR, R s.av A → pcl C px f args A R
theorem integerP (n : Int) (A : AHeap) : acl C 166 [.d (.int .i64 n)] A = some ((⟨1, n, []⟩ : Vl).av, A) := by
 rw [kC Tryz.func166 rfl Tryz.ntmps166 Tryz.results166]
 simp only [go_sem, acondK_bool, Vl.av]
def truthV (b : Bool) : Vl := ⟨3, if b then 1 else 0, []⟩
theorem truthP (b : Bool) (A : AHeap) : acl C 189 [.d (.bool b)] A = some ((truthV b).av, A) := by
 rw [kC Tryz.func189 rfl Tryz.ntmps189 Tryz.results189]
 cases b with
 | true => simp only [go_sem, acondK_bool, Vl.av, truthV]
 | false => simp only [go_sem, acondK_bool, Vl.av, truthV]
def textS (s : Bytes) : Oc := if decide (64 < (s.length : Int)) = true then .stop (abt 1006) else .ok ⟨2, 0, s⟩
theorem textP (s : Bytes) (A : AHeap) : Ans 190 [.d (.str s)] A (textS s) := by
 unfold textS
 cases h : decide (64 < (s.length : Int)) with
 | true =>
   intro R hR
   refine pC Tryz.func190 rfl Tryz.ntmps190 Tryz.results190 ?_
   simp only [go_sem, acondK_bool, h]
   exact abortP ((post_same rfl).2 hR)
 | false =>
   simp only [Bool.false_eq_true, if_false]
   change acl _ _ _ _ = _
   rw [kC Tryz.func190 rfl Tryz.ntmps190 Tryz.results190]
   simp only [go_sem, acondK_bool, h, Vl.av]
def exactS (r : Int × Int) : Oc := if decide (r.2 = 0) = true then .ok ⟨1, r.1, []⟩ else if decide (r.2 = 4) = true then .stop (abt 1002) else .stop (abt 1001)
theorem exactP (r : Int × Int) (A : AHeap) : Ans 187 [.d (.int .i64 r.1), .d (.int .i64 r.2)] A (exactS r) := by
 obtain ⟨a, b⟩ := r
 unfold exactS
 have i1 := integerP a A
 cases h : decide (b = 0) with
 | true =>
   simp only [h, if_true]
   change acl _ _ _ _ = _
   rw [kC Tryz.func187 rfl Tryz.ntmps187 Tryz.results187]
   simp only [go_sem, acondK_bool, h, i1, Vl.av]
 | false =>
   cases h2 : decide (b = 4) with
   | true =>
     simp only [h, h2, Bool.false_eq_true, if_true, if_false]
     intro R hR
     refine pC Tryz.func187 rfl Tryz.ntmps187 Tryz.results187 ?_
     simp only [go_sem, acondK_bool, h, h2]
     exact abortP ((post_same rfl).2 hR)
   | false =>
     simp only [h, h2, Bool.false_eq_true, if_true, if_false]
     intro R hR
     refine pC Tryz.func187 rfl Tryz.ntmps187 Tryz.results187 ?_
     simp only [go_sem, acondK_bool, h, h2]
     exact abortP ((post_same rfl).2 hR)
theorem ans_ok {f : FuncId} {args : List AV} {A : AHeap} {v : Vl} (h : Ans f args A (.ok v)) : acl C f args A = some (.agg [.d (.int .i64 v.kind), .d (.int .i64 v.n), .d (.str v.s)], A) := h
theorem ans_no {f : FuncId} {args : List AV} {A : AHeap} {s : Stp} (h : Ans f args A (.stop s)) : acl C f args A = none := pcl_no pxNo (h (fun _ _ => True) trivial)
def arithS (op a b : Int) : Oc := exactS (if decide (op = 4) = true then addS a b else if decide (op = 5) = true then subS a b else if decide (op = 6) = true then mulS a b else if decide (op = 7) = true then divS a b else modS a b)
theorem arithP (op a b : Int) (A : AHeap) : Ans 193 [.d (.int .i64 op), .d (.int .i64 a), .d (.int .i64 b)] A (arithS op a b) := by
 unfold arithS
 cases h1 : decide (op = 4) with
 | true =>
   have p := addP a b A
   have e := exactP (addS a b) A
   simp only [if_true]
   cases ho : exactS (addS a b) with
   | ok v => rw [ho] at e; have e := ans_ok e; change acl _ _ _ _ = _; rw [kC Tryz.func193 rfl Tryz.ntmps193 Tryz.results193]; simp only [go_sem, acondK_bool, h1, p, e, Vl.av]
   | stop s => rw [ho] at e; intro R hR; refine pC Tryz.func193 rfl Tryz.ntmps193 Tryz.results193 ?_; simp only [go_sem, acondK_bool, h1, p, ans_no e]; exact e _ ((post_same (f := 193) rfl).2 hR)
 | false =>
 cases h2 : decide (op = 5) with
 | true =>
   have p := subP a b A
   have e := exactP (subS a b) A
   simp only [if_true, Bool.false_eq_true, if_false]
   cases ho : exactS (subS a b) with
   | ok v => rw [ho] at e; have e := ans_ok e; change acl _ _ _ _ = _; rw [kC Tryz.func193 rfl Tryz.ntmps193 Tryz.results193]; simp only [go_sem, acondK_bool, h1, h2, p, e, Vl.av]
   | stop s => rw [ho] at e; intro R hR; refine pC Tryz.func193 rfl Tryz.ntmps193 Tryz.results193 ?_; simp only [go_sem, acondK_bool, h1, h2, p, ans_no e]; exact e _ ((post_same (f := 193) rfl).2 hR)
 | false =>
 cases h3 : decide (op = 6) with
 | true =>
   have p := mulP a b A
   have e := exactP (mulS a b) A
   simp only [if_true, Bool.false_eq_true, if_false]
   cases ho : exactS (mulS a b) with
   | ok v => rw [ho] at e; have e := ans_ok e; change acl _ _ _ _ = _; rw [kC Tryz.func193 rfl Tryz.ntmps193 Tryz.results193]; simp only [go_sem, acondK_bool, h1, h2, h3, p, e, Vl.av]
   | stop s => rw [ho] at e; intro R hR; refine pC Tryz.func193 rfl Tryz.ntmps193 Tryz.results193 ?_; simp only [go_sem, acondK_bool, h1, h2, h3, p, ans_no e]; exact e _ ((post_same (f := 193) rfl).2 hR)
 | false =>
 cases h4 : decide (op = 7) with
 | true =>
   have p := divP a b A
   have e := exactP (divS a b) A
   simp only [if_true, Bool.false_eq_true, if_false]
   cases ho : exactS (divS a b) with
   | ok v => rw [ho] at e; have e := ans_ok e; change acl _ _ _ _ = _; rw [kC Tryz.func193 rfl Tryz.ntmps193 Tryz.results193]; simp only [go_sem, acondK_bool, h1, h2, h3, h4, p, e, Vl.av]
   | stop s => rw [ho] at e; intro R hR; refine pC Tryz.func193 rfl Tryz.ntmps193 Tryz.results193 ?_; simp only [go_sem, acondK_bool, h1, h2, h3, h4, p, ans_no e]; exact e _ ((post_same (f := 193) rfl).2 hR)
 | false =>
   have p := modP a b A
   have e := exactP (modS a b) A
   simp only [if_true, Bool.false_eq_true, if_false]
   cases ho : exactS (modS a b) with
   | ok v => rw [ho] at e; have e := ans_ok e; change acl _ _ _ _ = _; rw [kC Tryz.func193 rfl Tryz.ntmps193 Tryz.results193]; simp only [go_sem, acondK_bool, h1, h2, h3, h4, p, e, Vl.av]
   | stop s => rw [ho] at e; intro R hR; refine pC Tryz.func193 rfl Tryz.ntmps193 Tryz.results193 ?_; simp only [go_sem, acondK_bool, h1, h2, h3, h4, p, ans_no e]; exact e _ ((post_same (f := 193) rfl).2 hR)
def cmpI (a b : Int) : Int := if decide (a < b) = true then -1 else if decide (b < a) = true then 1 else 0
theorem nanP (a : Int) (A : AHeap) : acl C 228 [.d (.int .i64 a)] A = some (.d (.bool false), A) := by
 rw [kC Tryz.func228 rfl Tryz.ntmps228 Tryz.results228]
 simp only [go_sem, acondK_bool]
theorem nan64P (a : Int) (A : AHeap) : acl C 247 [.d (.int .i64 a)] A = some (.d (.bool false), A) := by
 rw [kC Tryz.func247 rfl Tryz.ntmps247 Tryz.results247]
 simp only [go_sem, acondK_bool]
theorem cmpIP (a b : Int) (A : AHeap) : acl C 232 [.d (.int .i64 a), .d (.int .i64 b)] A = some (.d (.int .i64 (cmpI a b)), A) := by
 have n1 := nanP a A
 have n2 := nanP b A
 rw [kC Tryz.func232 rfl Tryz.ntmps232 Tryz.results232]
 unfold cmpI
 cases h1 : decide (a < b) with
 | true => simp only [go_sem, acondK_bool, n1, n2, h1]
 | false =>
 cases h2 : decide (b < a) with
 | true => simp only [go_sem, acondK_bool, n1, n2, h1, h2]
 | false => simp only [go_sem, acondK_bool, n1, n2, h1, h2]
theorem cmpI64P (a b : Int) (A : AHeap) : acl C 241 [.d (.int .i64 a), .d (.int .i64 b)] A = some (.d (.int .i64 (cmpI a b)), A) := by
 have n1 := nan64P a A
 have n2 := nan64P b A
 rw [kC Tryz.func241 rfl Tryz.ntmps241 Tryz.results241]
 unfold cmpI
 cases h1 : decide (a < b) with
 | true => simp only [go_sem, acondK_bool, n1, n2, h1]
 | false =>
 cases h2 : decide (b < a) with
 | true => simp only [go_sem, acondK_bool, n1, n2, h1, h2]
 | false => simp only [go_sem, acondK_bool, n1, n2, h1, h2]
theorem cmpB_ext (a b : Bytes) (A : AHeap) : acl C 176 [.d (.str a), .d (.str b)] A = some (.d (.int .i64 (Lib.compareBytes a b)), A) := by
 rw [acl_ext (c := C) (f := 176) (g := cmpFn Lib.compareBytes) rfl]; rfl
theorem cmpBP (a b : Bytes) (A : AHeap) : acl C 148 [.d (.str a), .d (.str b)] A = some (.d (.int .i64 (Lib.compareBytes a b)), A) := by
 have n1 := cmpB_ext a b A
 rw [kC Tryz.func148 rfl Tryz.ntmps148 Tryz.results148]
 simp only [go_sem, acondK_bool, n1]
theorem numbersP (a b : Vl) (A : AHeap) : acl C 233 [.agg (a.row.map .d ++ b.row.map .d)] A = some (.d (.int .i64 (cmpI a.n b.n)), A) := by
 have n1 := cmpI64P a.n b.n A
 unfold Vl.row
 rw [kC Tryz.func233 rfl Tryz.ntmps233 Tryz.results233]
 simp only [go_sem, acondK_bool, n1]
theorem stringsP (a b : Vl) (A : AHeap) : acl C 234 [.agg (a.row.map .d ++ b.row.map .d)] A = some (.d (.int .i64 (Lib.compareBytes a.s b.s)), A) := by
 have n1 := cmpBP a.s b.s A
 unfold Vl.row
 rw [kC Tryz.func234 rfl Tryz.ntmps234 Tryz.results234]
 simp only [go_sem, acondK_bool, n1]
def cmpV (a b : Vl) : Int := if decide (a.kind = b.kind) = true then (if decide (a.n = b.n) = true then Lib.compareBytes a.s b.s else cmpI a.n b.n) else cmpI a.kind b.kind
theorem cmpVP (a b : Vl) (A : AHeap) : acl C 219 [a.av, b.av] A = some (.d (.int .i64 (cmpV a b)), A) := by
 have n1 := cmpIP a.kind b.kind A
 have n2 := numbersP a b A
 have n3 := stringsP a b A
 simp only [Vl.row, List.map_cons, List.map_nil, List.cons_append, List.nil_append] at n2 n3
 rw [kC Tryz.func219 rfl Tryz.ntmps219 Tryz.results219]
 unfold cmpV
 cases h1 : decide (a.kind = b.kind) with
 | false => simp only [go_sem, acondK_bool, h1, n1, Vl.av]
 | true =>
 cases h2 : decide (a.n = b.n) with
 | true => simp only [go_sem, acondK_bool, h1, h2, n2, n3, Vl.av]
 | false => simp only [go_sem, acondK_bool, h1, h2, n2, n3, Vl.av]
def cmpR (op c : Int) : Bool := if decide (op = 10) = true then decide (c = 0) else if decide (op = 11) = true then !decide (c = 0) else if decide (op = 12) = true then decide (c < 0) else if decide (op = 13) = true then decide (c ≤ 0) else if decide (op = 14) = true then decide (0 < c) else decide (0 ≤ c)
def cmpOk (op : Int) (a b : Vl) : Bool := decide (a.kind = b.kind) && (decide (a.kind = 1) || decide (a.kind = 2) || (decide (a.kind = 3) && decide (op ≤ 11)))
def compareS (op : Int) (a b : Vl) : Oc := if cmpOk op a b = true then .ok (truthV (cmpR op (cmpV a b))) else .stop (abt 1009)
theorem compareP (op : Int) (a b : Vl) (A : AHeap) : Ans 194 [.d (.int .i64 op), a.av, b.av] A (compareS op a b) := by
 have q := cmpVP a b A
 unfold compareS
 generalize cmpV a b = c at q
 simp only [Vl.av] at q
 have t (x : Bool) := truthP x A
 have m1 := mustT A
 have m2 := mustN A
 cases h1 : decide (a.kind = b.kind) with
 | false =>
   simp only [cmpOk, h1, Bool.and_true, Bool.true_and, Bool.or_true, Bool.true_or, Bool.or_false, Bool.false_or, Bool.false_and, Bool.and_false, Bool.false_eq_true, if_true, if_false]
   intro R hR
   refine pC Tryz.func194 rfl Tryz.ntmps194 Tryz.results194 ?_
   simp only [go_sem, acondK_bool, h1, m2, Vl.av]
   exact mustF _ ((post_same (f := 194) rfl).2 hR)
 | true =>
 cases h2 : decide (a.kind = 1) with
 | true =>
   simp only [cmpOk, h1, h2, Bool.and_true, Bool.true_and, Bool.or_true, Bool.true_or, Bool.or_false, Bool.false_or, Bool.false_and, Bool.and_false, Bool.false_eq_true, if_true, if_false]
   change acl _ _ _ _ = _
   unfold cmpR
   cases g10 : decide (op = 10) with
   | true =>
     rw [kC Tryz.func194 rfl Tryz.ntmps194 Tryz.results194]
     simp only [go_sem, acondK_bool, h1, h2, g10, m1, q, t, Vl.av]
   | false =>
     cases g11 : decide (op = 11) with
     | true =>
       rw [kC Tryz.func194 rfl Tryz.ntmps194 Tryz.results194]
       simp only [go_sem, acondK_bool, h1, h2, g10, g11, m1, q, t, Vl.av]
     | false =>
       cases g12 : decide (op = 12) with
       | true =>
         rw [kC Tryz.func194 rfl Tryz.ntmps194 Tryz.results194]
         simp only [go_sem, acondK_bool, h1, h2, g10, g11, g12, m1, q, t, Vl.av]
       | false =>
         cases g13 : decide (op = 13) with
         | true =>
           rw [kC Tryz.func194 rfl Tryz.ntmps194 Tryz.results194]
           simp only [go_sem, acondK_bool, h1, h2, g10, g11, g12, g13, m1, q, t, Vl.av]
         | false =>
           cases g14 : decide (op = 14) with
           | true =>
             rw [kC Tryz.func194 rfl Tryz.ntmps194 Tryz.results194]
             simp only [go_sem, acondK_bool, h1, h2, g10, g11, g12, g13, g14, m1, q, t, Vl.av]
           | false =>
             rw [kC Tryz.func194 rfl Tryz.ntmps194 Tryz.results194]
             simp only [go_sem, acondK_bool, h1, h2, g10, g11, g12, g13, g14, m1, q, t, Vl.av]
 | false =>
 cases h3 : decide (a.kind = 2) with
 | true =>
   simp only [cmpOk, h1, h2, h3, Bool.and_true, Bool.true_and, Bool.or_true, Bool.true_or, Bool.or_false, Bool.false_or, Bool.false_and, Bool.and_false, Bool.false_eq_true, if_true, if_false]
   change acl _ _ _ _ = _
   unfold cmpR
   cases g10 : decide (op = 10) with
   | true =>
     rw [kC Tryz.func194 rfl Tryz.ntmps194 Tryz.results194]
     simp only [go_sem, acondK_bool, h1, h2, h3, g10, m1, q, t, Vl.av]
   | false =>
     cases g11 : decide (op = 11) with
     | true =>
       rw [kC Tryz.func194 rfl Tryz.ntmps194 Tryz.results194]
       simp only [go_sem, acondK_bool, h1, h2, h3, g10, g11, m1, q, t, Vl.av]
     | false =>
       cases g12 : decide (op = 12) with
       | true =>
         rw [kC Tryz.func194 rfl Tryz.ntmps194 Tryz.results194]
         simp only [go_sem, acondK_bool, h1, h2, h3, g10, g11, g12, m1, q, t, Vl.av]
       | false =>
         cases g13 : decide (op = 13) with
         | true =>
           rw [kC Tryz.func194 rfl Tryz.ntmps194 Tryz.results194]
           simp only [go_sem, acondK_bool, h1, h2, h3, g10, g11, g12, g13, m1, q, t, Vl.av]
         | false =>
           cases g14 : decide (op = 14) with
           | true =>
             rw [kC Tryz.func194 rfl Tryz.ntmps194 Tryz.results194]
             simp only [go_sem, acondK_bool, h1, h2, h3, g10, g11, g12, g13, g14, m1, q, t, Vl.av]
           | false =>
             rw [kC Tryz.func194 rfl Tryz.ntmps194 Tryz.results194]
             simp only [go_sem, acondK_bool, h1, h2, h3, g10, g11, g12, g13, g14, m1, q, t, Vl.av]
 | false =>
 cases h4 : decide (a.kind = 3) with
 | false =>
   simp only [cmpOk, h1, h2, h3, h4, Bool.and_true, Bool.true_and, Bool.or_true, Bool.true_or, Bool.or_false, Bool.false_or, Bool.false_and, Bool.and_false, Bool.false_eq_true, if_true, if_false]
   intro R hR
   refine pC Tryz.func194 rfl Tryz.ntmps194 Tryz.results194 ?_
   simp only [go_sem, acondK_bool, h1, h2, h3, h4, m2, Vl.av]
   exact mustF _ ((post_same (f := 194) rfl).2 hR)
 | true =>
 cases h5 : decide (op ≤ 11) with
 | false =>
   simp only [cmpOk, h1, h2, h3, h4, h5, Bool.and_true, Bool.true_and, Bool.or_true, Bool.true_or, Bool.or_false, Bool.false_or, Bool.false_and, Bool.and_false, Bool.false_eq_true, if_true, if_false]
   intro R hR
   refine pC Tryz.func194 rfl Tryz.ntmps194 Tryz.results194 ?_
   simp only [go_sem, acondK_bool, h1, h2, h3, h4, h5, m2, Vl.av]
   exact mustF _ ((post_same (f := 194) rfl).2 hR)
 | true =>
   simp only [cmpOk, h1, h2, h3, h4, h5, Bool.and_true, Bool.true_and, Bool.or_true, Bool.true_or, Bool.or_false, Bool.false_or, Bool.false_and, Bool.and_false, Bool.false_eq_true, if_true, if_false]
   change acl _ _ _ _ = _
   unfold cmpR
   cases g10 : decide (op = 10) with
   | true =>
     rw [kC Tryz.func194 rfl Tryz.ntmps194 Tryz.results194]
     simp only [go_sem, acondK_bool, h1, h2, h3, h4, h5, g10, m1, q, t, Vl.av]
   | false =>
     cases g11 : decide (op = 11) with
     | true =>
       rw [kC Tryz.func194 rfl Tryz.ntmps194 Tryz.results194]
       simp only [go_sem, acondK_bool, h1, h2, h3, h4, h5, g10, g11, m1, q, t, Vl.av]
     | false =>
       cases g12 : decide (op = 12) with
       | true =>
         rw [kC Tryz.func194 rfl Tryz.ntmps194 Tryz.results194]
         simp only [go_sem, acondK_bool, h1, h2, h3, h4, h5, g10, g11, g12, m1, q, t, Vl.av]
       | false =>
         cases g13 : decide (op = 13) with
         | true =>
           rw [kC Tryz.func194 rfl Tryz.ntmps194 Tryz.results194]
           simp only [go_sem, acondK_bool, h1, h2, h3, h4, h5, g10, g11, g12, g13, m1, q, t, Vl.av]
         | false =>
           cases g14 : decide (op = 14) with
           | true =>
             rw [kC Tryz.func194 rfl Tryz.ntmps194 Tryz.results194]
             simp only [go_sem, acondK_bool, h1, h2, h3, h4, h5, g10, g11, g12, g13, g14, m1, q, t, Vl.av]
           | false =>
             rw [kC Tryz.func194 rfl Tryz.ntmps194 Tryz.results194]
             simp only [go_sem, acondK_bool, h1, h2, h3, h4, h5, g10, g11, g12, g13, g14, m1, q, t, Vl.av]
end Go.Proofs.YtpbdjgdmhfibmaaGreatDoor
