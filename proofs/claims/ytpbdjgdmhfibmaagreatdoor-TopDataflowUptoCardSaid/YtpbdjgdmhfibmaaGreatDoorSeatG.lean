/- The shelf's numbering for this seat. -/
import Derived.Shelf.Spec.SlicesInsertGrow
import Derived.WalkKit
import Derived.Shelf.Small.Strs
import Derived.Shelf.Strconv.Itoa4
import Derived.Test.YtpbdjgdmhfibmaaGreatDoorSeatA
import Derived.Test.YtpbdjgdmhfibmaaGreatDoorSeatF
import Derived.Test.YtpbdjgdmhfibmaaGreatDoorSeatD
set_option linter.unusedVariables false
set_option linter.unusedSimpArgs false
set_option linter.all false
set_option linter.deprecated false
set_option linter.all false
namespace Go.Proofs.YtpbdjgdmhfibmaaGreatDoor
open Go.RowKit Go.Shelf
def rho2 : Ren := ⟨fun n => bif Nat.beq n 0 then 0 else bif Nat.beq n 1 then 1 else bif Nat.beq n 2 then 2 else bif Nat.beq n 17 then 242 else bif Nat.beq n 20 then 145 else bif Nat.beq n 22 then 195 else bif Nat.beq n 26 then 53 else bif Nat.beq n 29 then 220 else bif Nat.beq n 30 then 221 else bif Nat.beq n 31 then 203 else bif Nat.beq n 33 then 91 else bif Nat.beq n 34 then 92 else bif Nat.beq n 36 then 235 else bif Nat.beq n 37 then 228 else bif Nat.beq n 38 then 130 else bif Nat.beq n 40 then 250 else bif Nat.beq n 41 then 251 else bif Nat.beq n 42 then 252 else bif Nat.beq n 43 then 253 else bif Nat.beq n 44 then 254 else bif Nat.beq n 45 then 255 else bif Nat.beq n 46 then 256 else bif Nat.beq n 47 then 257 else bif Nat.beq n 48 then 258 else bif Nat.beq n 49 then 259 else bif Nat.beq n 50 then 260 else bif Nat.beq n 51 then 261 else bif Nat.beq n 52 then 262 else bif Nat.beq n 53 then 263 else bif Nat.beq n 54 then 264 else bif Nat.beq n 55 then 265 else 0, fun n => bif Nat.beq n 0 then 0 else bif Nat.beq n 1 then 1 else bif Nat.beq n 2 then 2 else bif Nat.beq n 3 then 3 else bif Nat.beq n 4 then 4 else bif Nat.beq n 5 then 5 else bif Nat.beq n 6 then 6 else bif Nat.beq n 7 then 7 else bif Nat.beq n 8 then 8 else bif Nat.beq n 9 then 9 else bif Nat.beq n 10 then 10 else bif Nat.beq n 11 then 11 else bif Nat.beq n 12 then 12 else bif Nat.beq n 13 then 13 else bif Nat.beq n 14 then 14 else bif Nat.beq n 15 then 15 else bif Nat.beq n 16 then 16 else bif Nat.beq n 17 then 17 else bif Nat.beq n 18 then 18 else bif Nat.beq n 19 then 19 else bif Nat.beq n 20 then 20 else bif Nat.beq n 21 then 21 else bif Nat.beq n 22 then 72 else bif Nat.beq n 23 then 206 else bif Nat.beq n 24 then 33 else bif Nat.beq n 26 then 292 else bif Nat.beq n 30 then 252 else bif Nat.beq n 33 then 111 else bif Nat.beq n 35 then 112 else bif Nat.beq n 38 then 37 else bif Nat.beq n 39 then 270 else bif Nat.beq n 40 then 153 else bif Nat.beq n 41 then 258 else bif Nat.beq n 42 then 130 else bif Nat.beq n 43 then 154 else bif Nat.beq n 44 then 149 else bif Nat.beq n 45 then 205 else bif Nat.beq n 46 then 299 else bif Nat.beq n 47 then 300 else bif Nat.beq n 48 then 301 else bif Nat.beq n 49 then 302 else bif Nat.beq n 50 then 303 else bif Nat.beq n 51 then 304 else bif Nat.beq n 52 then 282 else bif Nat.beq n 53 then 262 else bif Nat.beq n 54 then 305 else bif Nat.beq n 55 then 306 else bif Nat.beq n 56 then 307 else bif Nat.beq n 57 then 308 else bif Nat.beq n 58 then 309 else bif Nat.beq n 59 then 310 else bif Nat.beq n 60 then 311 else bif Nat.beq n 61 then 312 else bif Nat.beq n 62 then 313 else 0, fun n => 0⟩
theorem mixedP_rho2 : Tryz.prog.follows .mixedOrders = true := mixed
set_option maxRecDepth 100000 in
theorem lay_Lays2_n22 : Lays2.n22 Tryz.prog rho2 where
 mixed := mixedP_rho2
 f17 := by kernel_rfl
 f22 := by kernel_rfl
 f29 := by kernel_rfl
 f30 := by kernel_rfl
 f36 := by kernel_rfl
 t0 := by kernel_rfl
 a0 := fun _ => by kernel_rfl
 z0 := fun _ => by kernel_rfl
 v0 := fun _ => by kernel_rfl
 t3 := by kernel_rfl
 a3 := fun _ => by kernel_rfl
 z3 := fun _ => by kernel_rfl
 v3 := fun _ => by kernel_rfl
 t4 := by kernel_rfl
 a4 := fun _ => by kernel_rfl
 z4 := fun _ => by kernel_rfl
 v4 := fun _ => by kernel_rfl
 t9 := by kernel_rfl
 a9 := fun _ => by kernel_rfl
 z9 := fun _ => by kernel_rfl
 v9 := fun _ => by kernel_rfl
 t24 := by kernel_rfl
 a24 := fun _ => by kernel_rfl
 z24 := fun _ => by kernel_rfl
 v24 := fun _ => by kernel_rfl
 i9 := by kernel_rfl
end Go.Proofs.YtpbdjgdmhfibmaaGreatDoor
set_option linter.all false
namespace Go.Proofs.YtpbdjgdmhfibmaaGreatDoor
open Go.Abs Go.RowKit Go.Shelf
set_option maxRecDepth 100000
theorem with_found (v : Value) (k : ByteArray) (W : World) (n : Int) (Q : World → Prop) (hBS : Calls Tryz.prog 53 #[v, .string k] W fun e W1 => e = .returned (.tuple #[.int .i64 n, .bool true]) ∧ Q W1) :
  Calls Tryz.prog 170 #[v, .string k] W fun e W1 => e = .returned v ∧ Q W1 := by
 go_enter Tryz.func170, Tryz.ntmps170
 go_wp2_with (go_at_call 53; refine hBS.mono ?_; rintro e W1 ⟨rfl, hq⟩)
 go_ret
 exact ⟨rfl, hq⟩
theorem with_new (v : Value) (k : ByteArray) (W : World) (n : Int) (Q : World → Prop) (R : Ending → World → Prop) (hBS : Calls Tryz.prog 53 #[v, .string k] W fun e W1 => e = .returned (.tuple #[.int .i64 n, .bool false]) ∧ Q W1)
  (hIns : ∀ W1, Q W1 → Calls Tryz.prog 195 #[v, .int .i64 n, .slice (some ⟨W1.heap.size, 0, none⟩) 1 1] (W1.alloc (.cells #[.string k] 9)) fun e W2 => ∃ r, e = .returned r ∧ R e W2) :
  Calls Tryz.prog 170 #[v, .string k] W R := by
 go_enter Tryz.func170, Tryz.ntmps170
 go_wp2_with (first
  | (go_at_call 53; refine hBS.mono ?_; rintro e W1 ⟨rfl, hq⟩; have hI := hIns W1 hq)
  | (go_at_call 195; refine hI.mono ?_; rintro e W2 ⟨r, rfl, hR⟩))
 exact hR
theorem setCells_heap (b : Nat) : ∀ (new : List Value) (o : Nat) (W : World) (vs : Array Value) (T : TypeId) (fz : Nat × Nat), W.heap[b]? = some (.cells vs T fz) →
  ∃ vs', (W.setCells b o new).heap[b]? = some (.cells vs' T fz) ∧ vs'.size = vs.size ∧ (∀ k, (∀ j, j < new.length → k ≠ o + j) → vs'[k]? = vs[k]?) ∧ (∀ j v, new[j]? = some v → o + j < vs.size → vs'[o + j]? = some v) ∧ Local W (W.setCells b o new) b
 | [], o, W, vs, T, fz, h => ⟨vs, h, rfl, fun _ _ => rfl, fun j v hj => by simp at hj, ⟨rfl, fun _ _ => rfl, .refl W⟩⟩
 | x :: new, o, W, vs, T, fz, h => by
   have h1 : (W.setCell ⟨b, o, none⟩ x).heap[b]? = some (.cells (vs.setIfInBounds o x) T fz) := by
    unfold World.setCell
    simp only [Array.getElem?_modify, if_true, h]
    rfl
   obtain ⟨vs', e1, e2, e3, e4, e5⟩ := setCells_heap b new (o + 1) _ _ T fz h1
   refine ⟨vs', e1, by rw [e2]; simp, fun k hk => ?_, fun j v hj hlt => ?_, ⟨?_, fun k hk => ?_, ?_⟩⟩
   ·rw [e3 k (fun j hj => by have := hk (j + 1) (by simpa using hj); omega)]
    have := hk 0 (by simp)
    rw [Array.getElem?_setIfInBounds_ne (by omega)]
   ·cases j with
    | zero =>
      simp only [List.getElem?_cons_zero, Option.some.injEq] at hj
      subst hj
      rw [e3 (o + 0) (fun j _ => by omega)]
      rw [Nat.add_zero] at hlt ⊢
      simp [hlt]
    | succ j =>
      have := e4 j v (by simpa using hj) (by simp; omega)
      rwa [show o + 1 + j = o + (j + 1) by omega] at this
   ·rw [show W.setCells b o (x :: new) = (W.setCell ⟨b, o, none⟩ x).setCells b (o + 1) new from rfl, e5.size]
    simp [World.setCell]
   ·rw [show W.setCells b o (x :: new) = (W.setCell ⟨b, o, none⟩ x).setCells b (o + 1) new from rfl, e5.heap k hk]
    unfold World.setCell
    simp only [Array.getElem?_modify]
    rw [if_neg (fun e => hk e.symm)]
   ·exact Go.Abs.Rest.trans (W' := W.setCell ⟨b, o, none⟩ x) ⟨rfl, rfl⟩ e5.rest
structure Olds (W : World) (g : Gh) (l : List Bytes) (blk cap : Nat) (vs : Array Value) : Prop where
 at' : W.heap[blk]? = some (.cells vs 9 (0, 0))
 size : vs.size = cap
 len : l.length ≤ cap
 max : cap ≤ maxLen
 val : ∀ (i : Nat) (s : Bytes), l[i]? = some s → ∃ v, vs[i]? = some v ∧ RelD W g.S (.str s) v
theorem srow_get {l : List Bytes} {i : Nat} {row : List Dat} (h : (srow l)[i]? = some row) : ∃ s, l[i]? = some s ∧ row = [.str s] := by
 simp only [srow, List.getElem?_map, Option.map_eq_some_iff] at h
 obtain ⟨s, h1, h2⟩ := h
 exact ⟨s, h1, h2.symm⟩
theorem olds_of {W : World} {g : Gh} {A : AHeap} {tok : Nat} {l : List Bytes} (hw : WRel W g A) (hb : A.bufs[tok]? = some ⟨9, 1, srow l, 0⟩) {blk cap n : Nat} (hbf : g.bf tok = .slice (some ⟨blk, 0, none⟩) n cap) : ∃ vs, Olds W g l blk cap vs ∧ g.own blk = some (.buf tok) ∧ ∀ k, ¬ g.S blk k := by
 obtain ⟨blk', cap', vs, k1, k2, k3, k4, k5, k6, k7, k8, k9, k10⟩ := (hw.buf tok _ hb).ex (Nat.zero_le _)
 rw [hbf] at k1
 cases k1
 have hl : (srow l).length = l.length := by simp [srow]
 refine ⟨vs, ⟨k3, by simpa using k4, by simpa [srow] using k5, k6, fun i s hs => ?_⟩, k2, fun k hk => ?_⟩
 ·have := k9 i 0 [.str s] (.str s) (by simp [srow, hs]) rfl
  simpa using this
 ·have := k10 k hk
  simp at this
theorem put_here {W W' : World} {g : Gh} {A : AHeap} {tok : Nat} {l l' : List Bytes} (hw : WRel W g A) (hb : A.bufs[tok]? = some ⟨9, 1, srow l, 0⟩) {blk cap n : Nat} (hbf : g.bf tok = .slice (some ⟨blk, 0, none⟩) n cap) {vs' : Array Value}
  (hloc : Local W W' blk) (hat : W'.heap[blk]? = some (.cells vs' 9 (0, 0))) (hsz : vs'.size = cap) (hlen : l.length < l'.length) (hcap : l'.length ≤ cap) (hval : ∀ (i : Nat) (s : Bytes), l'[i]? = some s → ∃ v, vs'[i]? = some v ∧ RelD W g.S (.str s) v) :
  ∃ g', WRel W' g' ⟨A.objs, A.bufs.set tok ⟨9, 1, srow l', 0⟩⟩ ∧ Ev W g A W' g' ⟨A.objs, A.bufs.set tok ⟨9, 1, srow l', 0⟩⟩ ∧ RelV W' g' ⟨A.objs, A.bufs.set tok ⟨9, 1, srow l', 0⟩⟩ (.own tok l'.length) (.slice (some ⟨blk, 0, none⟩) l'.length cap) := by
 obtain ⟨vs, ho, hown, hS⟩ := olds_of hw hb hbf
 have htl := (List.getElem?_eq_some_iff.1 hb).1
 have hl : (srow l).length = l.length := by simp [srow]
 have hl' : (srow l').length = l'.length := by simp [srow]
 have hat' : (A.bufs.set tok ⟨9, 1, srow l', 0⟩)[tok]? = some ⟨9, 1, srow l', 0⟩ := by simp [htl]
 have hset := hw.setBuf (W' := W') (g' := { g with bf := fun t => if t = tok then .slice (some ⟨blk, 0, none⟩) l'.length cap else g.bf t }) (A' := ⟨A.objs, A.bufs.set tok ⟨9, 1, srow l', 0⟩⟩) (tok := tok) (b' := ⟨9, 1, srow l', 0⟩) rfl
  (fun t ht => by simp [List.getElem?_set_ne (fun e => ht e.symm)]) hat' (fun b2 hb2 => by rw [hb] at hb2; cases hb2; exact ⟨rfl, by simp only [hl, hl']; omega, fun e => by simp only [hl, hl'] at e; omega⟩)
  hloc.rest (Nat.le_of_eq hloc.size.symm) (fun b2 _ h2 => hloc.heap b2 fun e => h2 (e ▸ hown)) rfl rfl (fun t ht => by simp [ht]) (fun _ _ => rfl) (fun b2 o h1 h2 => by have := hw.lt _ _ h2; omega)
  (fun b2 k h1 h2 => by
   by_cases hbb : b2 = blk
   ·subst hbb; exact absurd h2 (hS k)
   ·exact cell_same (hloc.heap _ hbb))
  (fun ev => .of ⟨blk, cap, vs', by simp [hl'], hown, hat, by simpa using hsz, by simp only [hl']; exact hcap, ho.max, Nat.zero_le _, fun q row hq => by obtain ⟨s, _, rfl⟩ := srow_get hq; rfl, fun q j row c e1 e2 => by
   obtain ⟨s, h1, rfl⟩ := srow_get e1
   cases j with
   | zero =>
     simp at e2
     subst e2
     obtain ⟨v, h2, h3⟩ := hval q s h1
     exact ⟨v, by simpa using h2, ev.relD h3⟩
   | succ j => simp at e2, fun k hk => absurd hk (hS k)⟩)
 refine ⟨_, hset.1, hset.2, .own tok _ _ _ (by simpa using htl) fun b2 hb2 => ?_⟩
 rw [show (⟨A.objs, A.bufs.set tok ⟨9, 1, srow l', 0⟩⟩ : AHeap).bufs[tok]? = _ from hat'] at hb2
 cases hb2
 exact ⟨by simp [hl'], fun _ => by simp⟩
theorem heap_new {W W' : World} {vs : Array Value} {t : TypeId} (h1 : W'.heap.size = W.heap.size + 1) (h2 : W'.heap[W.heap.size]? = some (.cells vs t (0, 0))) (h3 : ∀ k, k < W.heap.size → W'.heap[k]? = W.heap[k]?) : W'.heap = (W.alloc (.cells vs t)).heap := by
 apply Array.ext_getElem?
 intro k
 rcases Nat.lt_trichotomy k W.heap.size with h | h | h
 ·rw [h3 k h, heap_alloc_get h]
 ·subst h
  rw [h2, heap_alloc_new]
 ·rw [Array.getElem?_eq_none (by omega), Array.getElem?_eq_none (by simp; omega)]
theorem put_there {W W' : World} {g : Gh} {A A' : AHeap} {tok : Nat} {l' : List Bytes} (hw : WRel W g A) (hobjs : A'.objs = A.objs) (hother : ∀ t, t ≠ tok → A'.bufs[t]? = A.bufs[t]?) (hat : A'.bufs[tok]? = some ⟨9, 1, srow l', 0⟩)
  (hold : ∀ b, A.bufs[tok]? = some b → b.sz = 1 ∧ b.rows.length < l'.length) {cap : Nat} {vs' : Array Value} (hW : W'.heap = (W.alloc (.cells vs' 9)).heap) (hrest : Go.Abs.Rest W W') (hsz : vs'.size = cap) (hcap : l'.length ≤ cap) (hmax : cap ≤ maxLen)
  (hval : ∀ (i : Nat) (s : Bytes), l'[i]? = some s → ∃ v, vs'[i]? = some v ∧ RelD W g.S (.str s) v) :
  ∃ g', WRel W' g' A' ∧ Ev W g A W' g' A' ∧ RelV W' g' A' (.own tok l'.length) (.slice (some ⟨W.heap.size, 0, none⟩) l'.length cap) := by
 have hl' : (srow l').length = l'.length := by simp [srow]
 have := hw.newBlock (A' := A') (W' := W') (tok := tok) (b' := ⟨9, 1, srow l', 0⟩) (vs := vs') (cap := cap) hother hobjs hat (fun b hb => ⟨(hold b hb).1.symm, by simp only [hl']; exact (hold b hb).2⟩) (by simp only [hl']; exact hcap) hmax (by simpa using hsz) (Nat.zero_le _)
  (fun q row hq => by obtain ⟨s, _, rfl⟩ := srow_get hq; rfl) (fun q j row c e1 e2 => by
   obtain ⟨s, h1, rfl⟩ := srow_get e1
   cases j with
   | zero =>
     simp at e2
     subst e2
     obtain ⟨v, h2, h3⟩ := hval q s h1
     exact ⟨v, by simpa using h2, h3⟩
   | succ j => simp at e2) hW hrest
 simp only [hl'] at this
 exact ⟨_, this⟩
theorem ins_get {l : List Bytes} {k : Bytes} {n : Nat} (hn : n ≤ l.length) {i : Nat} {s : Bytes} (h : (l.take n ++ k :: l.drop n)[i]? = some s) : (i < n ∧ l[i]? = some s) ∨ (i = n ∧ s = k) ∨ (n < i ∧ l[i - 1]? = some s) := by
 have ht : (l.take n).length = n := by simp; omega
 rcases Nat.lt_trichotomy i n with h1 | h1 | h1
 ·rw [List.getElem?_append_left (by omega), List.getElem?_take, if_pos h1] at h
  exact .inl ⟨h1, h⟩
 ·subst h1
  rw [List.getElem?_append_right (by omega), ht, Nat.sub_self] at h
  simp at h
  exact .inr (.inl ⟨rfl, h.symm⟩)
 ·rw [List.getElem?_append_right (by omega), ht, show i - n = (i - 1 - n) + 1 by omega, List.getElem?_cons_succ, List.getElem?_drop, show n + (i - 1 - n) = i - 1 by omega] at h
  exact .inr (.inr ⟨h1, h⟩)
def putH (A : AHeap) (tok : Nat) (l : List Bytes) : AHeap := ⟨A.objs, A.bufs.set tok ⟨9, 1, srow l, 0⟩⟩
theorem putH_other (A : AHeap) (tok : Nat) (l : List Bytes) (t : Nat) (h : t ≠ tok) : (putH A tok l).bufs[t]? = A.bufs[t]? := by simp [putH, List.getElem?_set_ne (fun e => h e.symm)]
theorem ins_own {W : World} {g : Gh} {A : AHeap} {tok : Nat} {l : List Bytes} {blk cap vb n : Nat} {kb : ByteArray} (hw : WRel W g A) (hb : A.bufs[tok]? = some ⟨9, 1, srow l, 0⟩) (hl : l.length ≤ 1099511627776) (hbf : g.bf tok = .slice (some ⟨blk, 0, none⟩) l.length cap)
  (hvb : W.heap[vb]? = some (.cells #[.string kb] 9 (0, 0))) (hvo : g.own vb = none) (hn : n ≤ l.length) :
  Calls Tryz.prog 195 #[.slice (some ⟨blk, 0, none⟩) l.length cap, .int .i64 n, .slice (some ⟨vb, 0, none⟩) 1 1] W fun e W' => ∃ r, e = .returned r ∧
   ∃ g', WRel W' g' (putH A tok (l.take n ++ kb.data.toList :: l.drop n)) ∧ Ev W g A W' g' (putH A tok (l.take n ++ kb.data.toList :: l.drop n)) ∧ RelV W' g' (putH A tok (l.take n ++ kb.data.toList :: l.drop n)) (.own tok (l.take n ++ kb.data.toList :: l.drop n).length) r := by
 obtain ⟨vs, ho, hown, hS⟩ := olds_of hw hb hbf
 have hne : vb ≠ blk := fun e => by rw [e, hown] at hvo; cases hvo
 have htl := (List.getElem?_eq_some_iff.1 hb).1
 have hlen : (l.take n ++ kb.data.toList :: l.drop n).length = l.length + 1 := by simp; omega
 have hat : (putH A tok (l.take n ++ kb.data.toList :: l.drop n)).bufs[tok]? = some ⟨9, 1, srow (l.take n ++ kb.data.toList :: l.drop n), 0⟩ := by simp [putH, htl]
 have hold : ∀ b, A.bufs[tok]? = some b → b.sz = 1 ∧ b.rows.length < (l.take n ++ kb.data.toList :: l.drop n).length := fun b hb' => by
  rw [hb] at hb'; cases hb'
  exact ⟨rfl, by rw [hlen]; simp [srow]⟩
 have hcapm := ho.max
 have hcl := ho.len
 have hvs := ho.size
 have hbw : blk < W.heap.size := (Array.getElem?_eq_some_iff.1 ho.at').1
 have hvw : vb < W.heap.size := (Array.getElem?_eq_some_iff.1 hvb).1
 unfold maxLen at hcapm
 have cb : ∀ j, W.cell? ⟨blk, j, none⟩ = vs[j]? := fun j => cell_of_row W blk j vs _ _ ho.at'
 have fb : ∀ j, W.frozen? ⟨blk, j, none⟩ = false := fun j => frozen_of_row W blk j vs _ ho.at'
 have cv : ∀ j v, [Value.string kb][j]? = some v → W.cell? ⟨vb, 0 + j, none⟩ = some v := fun j v hj => by
  rw [Nat.zero_add, cell_of_row W vb j _ _ _ hvb, ← Array.getElem?_toList]; exact hj
 have cs : ∀ j v, (vs.toList.take l.length)[j]? = some v → W.cell? ⟨blk, 0 + j, none⟩ = some v := fun j v hj => by
  rw [Nat.zero_add, cb, ← Array.getElem?_toList]
  rw [List.getElem?_take] at hj
  split at hj
  ·exact hj
  ·cases hj
 have csl : (vs.toList.take l.length).length = l.length := by simp; omega
 have one1 : ∀ v ∈ [Value.string kb], v.oneCell' = true := by simp [Value.oneCell']
 have csv : ∀ i, i < l.length → ∀ s, l[i]? = some s → ∃ v, (vs.toList.take l.length)[i]? = some v ∧ RelD W g.S (.str s) v := fun i hi s hs => by
  obtain ⟨v, h1, h2⟩ := ho.val i s hs
  exact ⟨v, by rw [List.getElem?_take, if_pos hi, Array.getElem?_toList]; exact h1, h2⟩
 have oneC : ∀ v ∈ vs.toList.take l.length, v.oneCell' = true := fun v hv => by
  obtain ⟨i, hi⟩ := List.getElem?_of_mem hv
  have hil : i < l.length := by have := (List.getElem?_eq_some_iff.1 hi).1; omega
  obtain ⟨v', h1, h2⟩ := csv i hil _ (List.getElem?_eq_getElem hil)
  rw [hi] at h1
  cases h1
  exact h2.one
 have kr : RelD W g.S (.str kb.data.toList) (.string kb) := .str kb
 rcases Nat.lt_or_ge n l.length with hlt | hge
 ·by_cases hroom : l.length + 1 ≤ cap
  ·-- in place, in the middle
   refine (Any2.slices_Insert_string_shift lay_Lays2_n22 blk 0 l.length cap n vb 0 1 1 (vs.toList.take l.length) [.string kb] W hlt (by omega) hroom (by omega) hne csl rfl cs (fun j hj => by rw [Nat.zero_add, cb, Array.getElem?_eq_getElem (by omega)]; rfl) (fun j _ => by rw [Nat.zero_add]; exact fb j) cv oneC one1
    9 9 1 cap (by simp [World.shape?, hvb]) (by simp [World.shape?, ho.at', hvs]) (by omega) (frozen_of_row W vb 0 _ _ hvb) (frozen_of_row W vb 1 _ _ hvb)).mono ?_
   rintro e W' ⟨rfl, rfl⟩
   obtain ⟨v1, a1, a2, a3, a4, a5⟩ := setCells_heap blk ((vs.toList.take l.length).drop n) (0 + (n + 1)) W.drew vs _ _ ho.at'
   obtain ⟨v2, b1, b2, b3, b4, b5⟩ := setCells_heap blk [.string kb] (0 + n) _ v1 _ _ a1
   have dl : ((vs.toList.take l.length).drop n).length = l.length - n := by rw [List.length_drop, csl]
   have loc : Local W ((W.drew.setCells blk (0 + (n + 1)) ((vs.toList.take l.length).drop n)).setCells blk (0 + n) [.string kb]) blk :=
    ⟨by rw [b5.size, a5.size]; rfl, fun b hb => by rw [b5.heap b hb, a5.heap b hb]; rfl, Go.Abs.Rest.trans (W' := W.drew) ⟨rfl, rfl⟩ (a5.rest.trans b5.rest)⟩
   obtain ⟨g', h1, h2, h3⟩ := put_here (l' := l.take n ++ kb.data.toList :: l.drop n) hw hb hbf loc b1 (by rw [b2, a2, hvs]) (by omega) (by omega) (fun i s hs => by
    rcases ins_get hn hs with ⟨q1, q2⟩ | ⟨q1, q2⟩ | ⟨q1, q2⟩
    ·obtain ⟨v, h1, h2⟩ := ho.val i s q2
     exact ⟨v, by rw [b3 i (fun j hj => by simp at hj; omega), a3 i (fun j hj => by omega)]; exact h1, h2⟩
    ·subst q1 q2
     exact ⟨_, by have := b4 0 _ rfl (by omega); simpa using this, kr⟩
    ·have hi : i - 1 < l.length := (List.getElem?_eq_some_iff.1 q2).1
     obtain ⟨v, h1, h2⟩ := csv (i - 1) hi s q2
     refine ⟨v, ?_, h2⟩
     rw [b3 i (fun j hj => by simp at hj; omega)]
     have := a4 (i - 1 - n) v (by rw [List.getElem?_drop, show n + (i - 1 - n) = i - 1 by omega]; exact h1) (by omega)
     rwa [show 0 + (n + 1) + (i - 1 - n) = i by omega] at this)
   rw [hlen] at h3 ⊢
   exact ⟨_, rfl, g', h1, h2, h3⟩
  ·-- in the middle, somewhere else
   refine (Any2.slices_Insert_string_grow lay_Lays2_n22 blk 0 l.length cap n vb 0 1 1 (vs.toList.take l.length) [.string kb] W hlt (by omega) hcl (by omega) (by omega) csl rfl cs cv oneC one1).mono ?_
   rintro e W' ⟨rfl, rfl⟩
   have gt : rho2.t 9 = 9 := rfl
   rw [gt]
   have g1 := grownCap_ge W (l.length + 1) cap 9
   have g2 := grownCap_le_maxLen W (l.length + 1) cap 9 (by unfold maxLen; omega)
   generalize grownCap W (l.length + 1) cap 9 = G at g1 g2 ⊢
   obtain ⟨ROW, hROW⟩ : ∃ ROW, ROW = ((vs.toList.take l.length).take n).toArray ++ Builtin.zeroCells (Value.string ⟨#[]⟩).cells (l.length + 1 - n) ++ Builtin.zeroCells (Value.string ⟨#[]⟩).cells (G - (l.length + 1)) := ⟨_, rfl⟩
   rw [← hROW]
   have hRs : ROW.size = G := by
    rw [hROW]
    simp only [Array.size_append, size_zeroCells, List.size_toArray, List.length_take, Array.length_toList]
    simp only [Value.cells, List.size_toArray, List.length_cons, List.length_nil]
    omega
   have hRg : ∀ i, i < n → ROW[i]? = (vs.toList.take l.length)[i]? := fun i hi => by
    rw [hROW, Array.append_assoc, Array.getElem?_append_left (by simp; omega), List.getElem?_toArray, List.getElem?_take, if_pos hi]
   have r0 : (W.alloc (.cells ROW 9)).drew.heap[W.heap.size]? = some (.cells ROW 9 (0, 0)) := heap_alloc_new W _
   obtain ⟨v1, a1, a2, a3, a4, a5⟩ := setCells_heap W.heap.size [.string kb] n _ ROW _ _ r0
   obtain ⟨v2, b1, b2, b3, b4, b5⟩ := setCells_heap W.heap.size ((vs.toList.take l.length).drop n) (n + 1) (((W.alloc (.cells ROW 9)).drew.setCells W.heap.size n [.string kb]).drew) v1 _ _ a1
   have dl : ((vs.toList.take l.length).drop n).length = l.length - n := by rw [List.length_drop, csl]
   have hsz : ((((W.alloc (.cells ROW 9)).drew.setCells W.heap.size n [.string kb]).drew).setCells W.heap.size (n + 1) ((vs.toList.take l.length).drop n)).heap.size = W.heap.size + 1 := by
    rw [b5.size]
    show ((W.alloc (.cells ROW 9)).drew.setCells W.heap.size n [.string kb]).heap.size = _
    rw [a5.size]
    show (W.alloc (.cells ROW 9)).heap.size = _
    simp
   obtain ⟨g', h1, h2, h3⟩ := put_there (l' := l.take n ++ kb.data.toList :: l.drop n) (A' := putH A tok (l.take n ++ kb.data.toList :: l.drop n)) hw rfl (putH_other A tok _) hat hold
    (heap_new hsz b1 (fun k hk => by
     rw [b5.heap k (by omega)]
     show ((W.alloc (.cells ROW 9)).drew.setCells W.heap.size n [.string kb]).heap[k]? = _
     rw [a5.heap k (by omega)]
     exact heap_alloc_get hk)) (Go.Abs.Rest.trans (W' := (W.alloc (.cells ROW 9)).drew) ⟨rfl, rfl⟩ (a5.rest.trans (Go.Abs.Rest.trans (W' := ((W.alloc (.cells ROW 9)).drew.setCells W.heap.size n [.string kb]).drew) ⟨rfl, rfl⟩ b5.rest))) (by rw [b2, a2, hRs]) (by omega) g2 (fun i s hs => by
    rcases ins_get hn hs with ⟨q1, q2⟩ | ⟨q1, q2⟩ | ⟨q1, q2⟩
    ·obtain ⟨v, h1, h2⟩ := csv i (by omega) s q2
     exact ⟨v, by rw [b3 i (fun j hj => by omega), a3 i (fun j hj => by simp at hj; omega), hRg i q1]; exact h1, h2⟩
    ·subst q1 q2
     refine ⟨_, ?_, kr⟩
     rw [b3 i (fun j hj => by omega)]
     have := a4 0 _ rfl (by omega); simpa using this
    ·have hi : i - 1 < l.length := (List.getElem?_eq_some_iff.1 q2).1
     obtain ⟨v, h1, h2⟩ := csv (i - 1) hi s q2
     refine ⟨v, ?_, h2⟩
     have := b4 (i - 1 - n) v (by rw [List.getElem?_drop, show n + (i - 1 - n) = i - 1 by omega]; exact h1) (by omega)
     rwa [show (n + 1) + (i - 1 - n) = i by omega] at this)
   rw [hlen] at h3 ⊢
   exact ⟨_, rfl, g', h1, h2, h3⟩
 ·obtain rfl : n = l.length := by omega
  by_cases hroom : l.length + 1 ≤ cap
  ·-- at the end, in place
   refine (Any2.slices_Insert_string_end_room lay_Lays2_n22 blk 0 l.length cap vb 0 1 1 [.string kb] W (by omega) hroom (by omega) rfl (fun j hj => by rw [Nat.zero_add, cb, Array.getElem?_eq_getElem (by omega)]; rfl) (fun j _ => by rw [Nat.zero_add]; exact fb _) cv one1).mono ?_
   rintro e W' ⟨rfl, rfl⟩
   obtain ⟨v1, a1, a2, a3, a4, a5⟩ := setCells_heap blk [.string kb] (0 + l.length) W vs _ _ ho.at'
   obtain ⟨g', h1, h2, h3⟩ := put_here (l' := l.take l.length ++ kb.data.toList :: l.drop l.length) hw hb hbf a5 a1 (by rw [a2, hvs]) (by omega) (by omega) (fun i s hs => by
    rcases ins_get hn hs with ⟨q1, q2⟩ | ⟨q1, q2⟩ | ⟨q1, q2⟩
    ·obtain ⟨v, h1, h2⟩ := ho.val i s q2
     exact ⟨v, by rw [a3 i (fun j hj => by simp at hj; omega)]; exact h1, h2⟩
    ·subst q1 q2
     exact ⟨_, by have := a4 0 _ rfl (by omega); simpa using this, kr⟩
    ·have hi : i - 1 < l.length := (List.getElem?_eq_some_iff.1 q2).1
     omega)
   rw [hlen] at h3 ⊢
   exact ⟨_, rfl, g', h1, h2, h3⟩
  ·-- at the end, somewhere else
   refine (Any2.slices_Insert_string_end_grow lay_Lays2_n22 (some ⟨blk, 0, none⟩) l.length cap vb 0 1 1 (vs.toList.take l.length) [.string kb] W (by omega) hcl (by omega) (by omega) csl rfl (fun h => by cases h) (fun a ha j v hj => by cases ha; rw [Addr.add_lit]; exact cs j v hj) cv one1).mono ?_
   rintro e W' ⟨rfl, rfl⟩
   have gt : rho2.t 9 = 9 := rfl
   rw [gt]
   have g1 := grownCap_ge W (l.length + 1) cap 9
   have g2 := grownCap_le_maxLen W (l.length + 1) cap 9 (by unfold maxLen; omega)
   generalize grownCap W (l.length + 1) cap 9 = G at g1 g2 ⊢
   obtain ⟨g', h1, h2, h3⟩ := put_there (l' := l.take l.length ++ kb.data.toList :: l.drop l.length) (A' := putH A tok (l.take l.length ++ kb.data.toList :: l.drop l.length)) (cap := G) hw rfl (putH_other A tok _) hat hold (W' := W.drew.alloc (.cells ((vs.toList.take l.length ++ [Value.string kb]).toArray ++ Builtin.zeroCells (Value.string ⟨#[]⟩).cells (G - (l.length + 1))) 9)) rfl (drewAlloc W _ _) (by
     simp only [Array.size_append, size_zeroCells, List.size_toArray, List.length_append, csl, List.length_cons, List.length_nil]
     simp only [Value.cells, List.size_toArray, List.length_cons, List.length_nil]
     omega) (by omega) g2 (fun i s hs => by
    rcases ins_get hn hs with ⟨q1, q2⟩ | ⟨q1, q2⟩ | ⟨q1, q2⟩
    ·obtain ⟨v, h1, h2⟩ := csv i (by omega) s q2
     exact ⟨v, by rw [Array.getElem?_append_left (by simp; omega), List.getElem?_toArray, List.getElem?_append_left (by omega)]; exact h1, h2⟩
    ·subst q1 q2
     refine ⟨_, ?_, kr⟩
     rw [Array.getElem?_append_left (by simp; omega), List.getElem?_toArray, List.getElem?_append_right (by omega), csl, Nat.sub_self]
     rfl
    ·have hi : i - 1 < l.length := (List.getElem?_eq_some_iff.1 q2).1
     omega)
   rw [hlen] at h3 ⊢
   exact ⟨_, rfl, g', h1, h2, h3⟩
theorem two_args {W : World} {g : Gh} {A : AHeap} {x y : AV} {vs : List Value} (h : RelL W g A [x, y] vs) : ∃ v u, vs = [v, u] ∧ RelV W g A x v ∧ RelV W g A y u := by
 obtain ⟨h1, h2⟩ := h
 match vs, h1 with
 | [v, u], _ => exact ⟨v, u, rfl, h2 0 x v rfl rfl, h2 1 y u rfl rfl⟩
 | [], h => simp at h
 | [_], h => simp at h
 | _ :: _ :: _ :: _, h => simp at h
theorem rowStrs_inv : ∀ {rows : List (List Dat)} {l : List (List UInt8)}, rowStrs rows = some l → rows = srow l
 | [], l, h => by cases h; rfl
 | [.str s] :: rs, l, h => by
   rw [rowStrs, Option.map_eq_some_iff] at h
   obtain ⟨l', h1, rfl⟩ := h
   have := rowStrs_inv h1
   simp only [srow] at this
   simp only [srow, List.map_cons, this]
theorem bs_answer {W1 : World} {g1 : Gh} {A : AHeap} {n : Int} {b : Bool} {v : Value} (h : RelV W1 g1 A (.tuple [.d (.int .i64 n), .d (.bool b)]) v) : v = .tuple #[.int .i64 n, .bool b] := by
 cases h with
 | tuple cs vs hl hr =>
   match vs, hl with
   | [x, y], _ =>
     have h0 := hr 0 _ _ rfl rfl
     have h1 := hr 1 _ _ rfl rfl
     cases h0 with
     | d _ _ h0 => cases h0; cases h1 with
       | d _ _ h1 => cases h1; rfl
theorem bs_calls {W : World} {g : Gh} {A : AHeap} {x : AV} {v : Value} {kb : ByteArray} {n : Int} {b : Bool} (hw : WRel W g A) (hv : RelV W g A x v) (h : acl C0 53 [x, .d (.str kb.data.toList)] A = some (.tuple [.d (.int .i64 n), .d (.bool b)], A)) :
  Calls Tryz.prog 53 #[v, .string kb] W fun e W1 => e = .returned (.tuple #[.int .i64 n, .bool b]) ∧ ∃ g1, WRel W1 g1 A ∧ Ev W g A W1 g1 A := by
 have := (acl_ok (c := C0) mixed (fun f h hf => by cases hf) _ _ _ _ _ h).2 W g [v, .string kb] hw ⟨rfl, fun i x v h1 h2 => by
  match i with
  | 0 => simp at h1 h2; subst h1; subst h2; exact hv
  | 1 => simp at h1 h2; subst h1; subst h2; exact .d _ _ (.str kb)
  | i + 2 => simp at h1⟩
 refine Calls.mono this ?_
 rintro e W1 ⟨v', g1, rfl, h1, h2, h3⟩
 exact ⟨by rw [bs_answer h1], g1, h2, h3⟩
theorem with_ok : CallOk1 Tryz.prog 170 (withFn 9) := by
 intro xs A x A' hx
 unfold withFn at hx
 split at hx
 ·rename_i tok len k
  split at hx
  case h_2 => cases hx
  rename_i b hb
  split at hx
  case h_2 => cases hx
  rename_i l hl
  split at hx
  case isFalse => cases hx
  rename_i hc
  obtain ⟨c1, c2, c3, c4, c5⟩ := hc
  cases hx
  subst c3
  refine ⟨⟨_, Tryz.func170, by kernel_rfl, by kernel_rfl⟩, fun W g vs hw hr => ?_⟩
  obtain ⟨v, u, rfl, hv, hu⟩ := two_args hr
  have hb' : A.bufs[tok]? = some ⟨9, 1, srow l, 0⟩ := by
   rw [hb]
   obtain ⟨be, bs, br, bf⟩ := b
   simp only at c1 c2 c4 hl
   rw [c1, c2, c4, rowStrs_inv hl]
  cases hu with
  | d _ _ hd =>
  cases hd with
  | str kb =>
  have hB := bs_calls hw hv (bsP0 kb.data.toList hb' c5)
  unfold withS
  cases hs : sIn l kb.data.toList with
  | true =>
    rw [hs] at hB
    refine (with_found v kb W _ _ hB).mono ?_
    rintro e W1 ⟨rfl, g1, w1, e1⟩
    have hA : (⟨A.objs, A.bufs.set tok ⟨9, 1, srow l, 0⟩⟩ : AHeap) = A := by rw [set_same hb']
    simp only [if_true]
    rw [hA]
    exact ⟨_, g1, rfl, e1.toEvV.relV hv, w1, e1⟩
  | false =>
    rw [hs] at hB
    simp only [Bool.false_eq_true, if_false]
    have hbl := (bsR_le l kb.data.toList 0 l.length (by omega)).2
    refine with_new v kb W _ _ _ hB ?_
    rintro W1 ⟨g1, w1, e1⟩
    have pl : Go.Abs.plainObj (.cells #[.string kb] 9) := by trivial
    have w2 := WRel.alloc w1 pl
    have e2 := Ev.alloc w1 pl
    have hv2 := (e1.trans e2).toEvV.relV hv
    obtain ⟨blk, cap, hve, hbf⟩ := own_bf w2 hv2 hb' (by simp [srow])
    have hsl : (srow l).length = l.length := by simp [srow]
    rw [hsl] at hve hbf
    subst hve
    have hvo : g1.own W1.heap.size = none := by
     cases ho : g1.own W1.heap.size with
     | none => rfl
     | some o => have := w1.lt _ _ ho; omega
    refine (ins_own (kb := kb) w2 hb' c5 hbf (heap_alloc_new W1 _) hvo hbl).mono ?_
    rintro e W3 ⟨r, rfl, g3, h1, h2, h3⟩
    exact ⟨r, rfl, r, g3, rfl, h3, h1, e1.trans (e2.trans h2)⟩
 ·rename_i k
  cases hx
  refine ⟨⟨_, Tryz.func170, by kernel_rfl, by kernel_rfl⟩, fun W g vs hw hr => ?_⟩
  obtain ⟨v, u, rfl, hv, hu⟩ := two_args hr
  cases hu with
  | d _ _ hd =>
  cases hd with
  | str kb =>
  have hB := bs_calls hw hv (bs0P0 kb.data.toList)
  cases hv
  refine with_new _ kb W _ _ _ hB ?_
  rintro W1 ⟨g1, w1, e1⟩
  have pl : Go.Abs.plainObj (.cells #[.string kb] 9) := by trivial
  have w2 := WRel.alloc w1 pl
  have e2 := Ev.alloc w1 pl
  have hvb : (W1.alloc (.cells #[.string kb] 9)).heap[W1.heap.size]? = some (.cells #[.string kb] 9 (0, 0)) := heap_alloc_new W1 _
  refine (Any2.slices_Insert_string_end_grow lay_Lays2_n22 none 0 0 W1.heap.size 0 1 1 [] [.string kb] (W1.alloc (.cells #[.string kb] 9)) (by omega) (by omega) (by omega) (by omega) rfl rfl (fun _ => rfl) (fun a ha => by cases ha) (fun j v hj => by
   rw [Nat.zero_add, cell_of_row _ _ j _ _ _ hvb, ← Array.getElem?_toList]; exact hj) (by simp [Value.oneCell'])).mono ?_
  rintro e W3 ⟨rfl, rfl⟩
  have gt : rho2.t 9 = 9 := rfl
  rw [gt]
  have g1' := grownCap_ge (W1.alloc (.cells #[.string kb] 9)) (0 + 1) 0 9
  have g2' := grownCap_le_maxLen (W1.alloc (.cells #[.string kb] 9)) (0 + 1) 0 9 (by unfold maxLen; omega)
  generalize grownCap (W1.alloc (.cells #[.string kb] 9)) (0 + 1) 0 9 = G at g1' g2' ⊢
  obtain ⟨g', h1, h2, h3⟩ := put_there (l' := [kb.data.toList]) (A' := ⟨A.objs, A.bufs ++ [⟨9, 1, [[.str kb.data.toList]], 0⟩]⟩) (tok := A.bufs.length) (cap := G) w2 rfl (fun t ht => by
    rcases Nat.lt_or_ge t A.bufs.length with h | h
    ·simp [List.getElem?_append_left h]
    ·rw [List.getElem?_eq_none (by simp; omega), List.getElem?_eq_none h]) (by simp [srow]) (fun b hb => by simp at hb) (W' := (W1.alloc (.cells #[.string kb] 9)).drew.alloc (.cells (([] ++ [Value.string kb]).toArray ++ Builtin.zeroCells (Value.string ⟨#[]⟩).cells (G - (0 + 1))) 9)) rfl (drewAlloc _ _ _) (by
    simp only [Array.size_append, size_zeroCells, List.size_toArray, List.nil_append, List.length_cons, List.length_nil]
    simp only [Value.cells, List.size_toArray, List.length_cons, List.length_nil]
    omega) (by simpa using g1') g2' (fun i s hs => by
   cases i with
   | zero =>
     simp at hs
     subst hs
     exact ⟨.string kb, by rw [Array.getElem?_append_left (by simp)]; rfl, .str kb⟩
   | succ i => simp at hs)
  exact ⟨_, rfl, _, g', rfl, h3, h1, e1.trans (e2.trans h2)⟩
 ·cases hx
end Go.Proofs.YtpbdjgdmhfibmaaGreatDoor
set_option linter.all false
namespace Go.Proofs.YtpbdjgdmhfibmaaGreatDoor
open Go.RowKit Go.Shelf
def rho : Ren := ⟨fun n => bif Nat.beq n 0 then 0 else bif Nat.beq n 1 then 1 else bif Nat.beq n 2 then 2 else bif Nat.beq n 106 then 148 else bif Nat.beq n 109 then 138 else bif Nat.beq n 110 then 97 else bif Nat.beq n 122 then 232 else bif Nat.beq n 125 then 174 else bif Nat.beq n 128 then 206 else bif Nat.beq n 129 then 207 else bif Nat.beq n 173 then 212 else bif Nat.beq n 189 then 144 else bif Nat.beq n 213 then 176 else bif Nat.beq n 215 then 228 else bif Nat.beq n 216 then 203 else bif Nat.beq n 246 then 231 else bif Nat.beq n 257 then 173 else bif Nat.beq n 265 then 208 else bif Nat.beq n 283 then 237 else bif Nat.beq n 284 then 238 else bif Nat.beq n 285 then 239 else bif Nat.beq n 286 then 240 else bif Nat.beq n 294 then 197 else bif Nat.beq n 295 then 198 else bif Nat.beq n 296 then 199 else bif Nat.beq n 297 then 200 else bif Nat.beq n 298 then 201 else bif Nat.beq n 299 then 202 else bif Nat.beq n 300 then 204 else bif Nat.beq n 301 then 205 else bif Nat.beq n 308 then 91 else bif Nat.beq n 317 then 243 else bif Nat.beq n 318 then 244 else bif Nat.beq n 319 then 245 else bif Nat.beq n 320 then 246 else bif Nat.beq n 328 then 223 else bif Nat.beq n 329 then 224 else bif Nat.beq n 330 then 225 else bif Nat.beq n 331 then 226 else bif Nat.beq n 332 then 227 else bif Nat.beq n 336 then 130 else bif Nat.beq n 337 then 248 else bif Nat.beq n 338 then 249 else bif Nat.beq n 343 then 236 else bif Nat.beq n 347 then 250 else bif Nat.beq n 348 then 251 else bif Nat.beq n 349 then 252 else bif Nat.beq n 350 then 253 else bif Nat.beq n 351 then 254 else bif Nat.beq n 352 then 255 else bif Nat.beq n 353 then 256 else bif Nat.beq n 354 then 257 else bif Nat.beq n 355 then 258 else bif Nat.beq n 356 then 259 else bif Nat.beq n 357 then 260 else bif Nat.beq n 358 then 261 else bif Nat.beq n 359 then 262 else bif Nat.beq n 360 then 263 else bif Nat.beq n 361 then 264 else bif Nat.beq n 366 then 265 else bif Nat.beq n 367 then 271 else 0, fun n => bif Nat.beq n 0 then 0 else bif Nat.beq n 1 then 1 else bif Nat.beq n 2 then 2 else bif Nat.beq n 3 then 3 else bif Nat.beq n 4 then 4 else bif Nat.beq n 5 then 5 else bif Nat.beq n 6 then 6 else bif Nat.beq n 7 then 7 else bif Nat.beq n 8 then 8 else bif Nat.beq n 9 then 9 else bif Nat.beq n 10 then 10 else bif Nat.beq n 11 then 11 else bif Nat.beq n 12 then 12 else bif Nat.beq n 13 then 13 else bif Nat.beq n 14 then 14 else bif Nat.beq n 15 then 15 else bif Nat.beq n 16 then 16 else bif Nat.beq n 17 then 17 else bif Nat.beq n 18 then 18 else bif Nat.beq n 19 then 19 else bif Nat.beq n 20 then 20 else bif Nat.beq n 21 then 21 else bif Nat.beq n 22 then 154 else bif Nat.beq n 27 then 208 else bif Nat.beq n 28 then 72 else bif Nat.beq n 31 then 33 else bif Nat.beq n 32 then 201 else bif Nat.beq n 33 then 66 else bif Nat.beq n 35 then 205 else bif Nat.beq n 37 then 288 else bif Nat.beq n 40 then 209 else bif Nat.beq n 41 then 193 else bif Nat.beq n 43 then 279 else bif Nat.beq n 46 then 153 else bif Nat.beq n 47 then 237 else bif Nat.beq n 51 then 262 else bif Nat.beq n 52 then 261 else bif Nat.beq n 53 then 233 else bif Nat.beq n 54 then 263 else bif Nat.beq n 73 then 123 else bif Nat.beq n 80 then 299 else bif Nat.beq n 81 then 282 else bif Nat.beq n 83 then 285 else bif Nat.beq n 84 then 266 else bif Nat.beq n 100 then 292 else bif Nat.beq n 101 then 37 else bif Nat.beq n 103 then 210 else bif Nat.beq n 104 then 149 else bif Nat.beq n 111 then 130 else bif Nat.beq n 112 then 258 else bif Nat.beq n 114 then 278 else bif Nat.beq n 127 then 308 else bif Nat.beq n 131 then 111 else bif Nat.beq n 134 then 236 else bif Nat.beq n 164 then 313 else bif Nat.beq n 171 then 286 else bif Nat.beq n 172 then 287 else bif Nat.beq n 173 then 289 else bif Nat.beq n 174 then 290 else bif Nat.beq n 181 then 253 else bif Nat.beq n 182 then 254 else bif Nat.beq n 183 then 255 else bif Nat.beq n 184 then 256 else bif Nat.beq n 185 then 257 else bif Nat.beq n 186 then 259 else bif Nat.beq n 187 then 260 else bif Nat.beq n 211 then 293 else bif Nat.beq n 212 then 294 else bif Nat.beq n 213 then 295 else bif Nat.beq n 218 then 272 else bif Nat.beq n 219 then 273 else bif Nat.beq n 220 then 274 else bif Nat.beq n 221 then 275 else bif Nat.beq n 222 then 276 else bif Nat.beq n 223 then 277 else bif Nat.beq n 228 then 283 else bif Nat.beq n 229 then 264 else bif Nat.beq n 230 then 284 else bif Nat.beq n 232 then 297 else bif Nat.beq n 233 then 298 else bif Nat.beq n 238 then 300 else bif Nat.beq n 239 then 301 else bif Nat.beq n 240 then 302 else bif Nat.beq n 241 then 303 else bif Nat.beq n 242 then 304 else bif Nat.beq n 243 then 305 else bif Nat.beq n 244 then 306 else bif Nat.beq n 245 then 307 else bif Nat.beq n 246 then 309 else bif Nat.beq n 247 then 310 else bif Nat.beq n 248 then 311 else bif Nat.beq n 249 then 312 else 0, fun n => bif Nat.beq n 17 then 1 else bif Nat.beq n 18 then 2 else bif Nat.beq n 19 then 3 else 0⟩
theorem mixedP_rho : Tryz.prog.follows .mixedOrders = true := mixed
set_option maxRecDepth 100000 in
theorem lay_Lays_n213 : Lays.n213 Tryz.prog rho where
 mixed := mixedP_rho
 f213 := by kernel_rfl
 f265 := by kernel_rfl
 t3 := by kernel_rfl
 a3 := fun _ => by kernel_rfl
 z3 := fun _ => by kernel_rfl
 v3 := fun _ => by kernel_rfl
 t9 := by kernel_rfl
 a9 := fun _ => by kernel_rfl
 z9 := fun _ => by kernel_rfl
 v9 := fun _ => by kernel_rfl
set_option maxRecDepth 100000 in
theorem lay_LaysM_n173 : LaysM.n173 Tryz.prog rho where
 mixed := mixedP_rho
 f129 := by kernel_rfl
 f173 := by kernel_rfl
 f246 := by kernel_rfl
 f283 := by kernel_rfl
 f284 := by kernel_rfl
 f285 := by kernel_rfl
 f286 := by kernel_rfl
 f317 := by kernel_rfl
 f318 := by kernel_rfl
 f319 := by kernel_rfl
 f320 := by kernel_rfl
 f337 := by kernel_rfl
 f338 := by kernel_rfl
 t0 := by kernel_rfl
 a0 := fun _ => by kernel_rfl
 z0 := fun _ => by kernel_rfl
 v0 := fun _ => by kernel_rfl
 t2 := by kernel_rfl
 a2 := fun _ => by kernel_rfl
 z2 := fun _ => by kernel_rfl
 v2 := fun _ => by kernel_rfl
 t3 := by kernel_rfl
 a3 := fun _ => by kernel_rfl
 z3 := fun _ => by kernel_rfl
 v3 := fun _ => by kernel_rfl
 t4 := by kernel_rfl
 a4 := fun _ => by kernel_rfl
 z4 := fun _ => by kernel_rfl
 v4 := fun _ => by kernel_rfl
 t5 := by kernel_rfl
 a5 := fun _ => by kernel_rfl
 z5 := fun _ => by kernel_rfl
 v5 := fun _ => by kernel_rfl
 t9 := by kernel_rfl
 a9 := fun _ => by kernel_rfl
 z9 := fun _ => by kernel_rfl
 v9 := fun _ => by kernel_rfl
 t20 := by kernel_rfl
 a20 := fun _ => by kernel_rfl
 z20 := fun _ => by kernel_rfl
 v20 := fun _ => by kernel_rfl
 t37 := by kernel_rfl
 a37 := fun _ => by kernel_rfl
 z37 := fun _ => by kernel_rfl
 v37 := fun _ => by kernel_rfl
 t46 := by kernel_rfl
 a46 := fun _ => by kernel_rfl
 z46 := fun _ => by kernel_rfl
 v46 := fun _ => by kernel_rfl
 t51 := by kernel_rfl
 a51 := fun _ => by kernel_rfl
 z51 := fun _ => by kernel_rfl
 v51 := fun _ => by kernel_rfl
 t53 := by kernel_rfl
 a53 := fun _ => by kernel_rfl
 z53 := fun _ => by kernel_rfl
 v53 := fun _ => by kernel_rfl
 t171 := by kernel_rfl
 a171 := fun _ => by kernel_rfl
 z171 := fun _ => by kernel_rfl
 v171 := fun _ => by kernel_rfl
 t173 := by kernel_rfl
 a173 := fun _ => by kernel_rfl
 z173 := fun _ => by kernel_rfl
 v173 := fun _ => by kernel_rfl
 t212 := by kernel_rfl
 a212 := fun _ => by kernel_rfl
 z212 := fun _ => by kernel_rfl
 v212 := fun _ => by kernel_rfl
 t213 := by kernel_rfl
 a213 := fun _ => by kernel_rfl
 z213 := fun _ => by kernel_rfl
 t232 := by kernel_rfl
 a232 := fun _ => by kernel_rfl
 z232 := fun _ => by kernel_rfl
 v232 := fun _ => by kernel_rfl
 t233 := by kernel_rfl
 a233 := fun _ => by kernel_rfl
 z233 := fun _ => by kernel_rfl
 v233 := fun _ => by kernel_rfl
 g17 := by kernel_rfl
 g18 := by kernel_rfl
 g19 := by kernel_rfl
 i0 := by kernel_rfl
 i2 := by kernel_rfl
 i3 := by kernel_rfl
 i4 := by kernel_rfl
 i5 := by kernel_rfl
 i9 := by kernel_rfl
 i20 := by kernel_rfl
 i37 := by kernel_rfl
 i46 := by kernel_rfl
 i51 := by kernel_rfl
 i53 := by kernel_rfl
 i171 := by kernel_rfl
 i173 := by kernel_rfl
 i212 := by kernel_rfl
 i232 := by kernel_rfl
 i233 := by kernel_rfl
 m17 := by kernel_rfl
 m18 := by kernel_rfl
 m19 := by kernel_rfl
end Go.Proofs.YtpbdjgdmhfibmaaGreatDoor
set_option linter.all false
namespace Go.Proofs.YtpbdjgdmhfibmaaGreatDoor
open Go.Abs
attribute [local congr] ite_congr
set_option maxRecDepth 100000
def newS (l : List Kv) (fa : Bool) (fr fw : List Bytes) : Mc := ⟨l, fa, fr, fw, [], [], [], [], [], 0⟩
theorem fin_ptr {f : FuncId} {A : AHeap} {l : List AObj} {i j : Nat} (ho : C.own f = false) : afinR C f A ⟨A.objs ++ l, A.bufs⟩ (some (.ptr i j)) = some (.ptr i j, ⟨A.objs ++ l, A.bufs⟩) := by
 have e : ∀ B, acleanR B (.ptr i j) = (.ptr i j, B) := fun B => rfl
 simp only [afinR, Option.map_some, afinish, ho, Bool.false_eq_true, if_false, e]
 unfold acut
 simp [AV.noptr, AV.noptr2, AV.noptr1]
theorem newP (l : List Kv) (fa : Bool) (fr fw : List Bytes) (A : AHeap) : ∃ A', acl C 47 [.d (.slice (l.map Kv.row)), .agg [.d (.bool fa), .d (.slice (srow fr)), .d (.slice (srow fw))]] A = some (.ptr (A.objs.length + 2) 0, A') ∧
  HM A' ⟨A.objs.length + 2, A.objs.length, A.objs.length + 1⟩ .nilS .nilS .nilS (newS l fa fr fw) ∧ A'.objs.length = A.objs.length + 3 ∧ (∀ i, i < A.objs.length → A'.objs[i]? = A.objs[i]?) ∧ A'.bufs = A.bufs := by
 have f := fun l => fin_ptr (f := 47) (A := A) (l := l) (i := A.objs.length + 2) (j := 0) rfl
 refine ⟨⟨A.objs ++ [.map [], .map [], .cells (mcell ⟨A.objs.length + 2, A.objs.length, A.objs.length + 1⟩ .nilS .nilS .nilS (newS l fa fr fw))], A.bufs⟩, ?_, ?_, by simp, fun i hi => by simp [List.getElem?_append_left hi], rfl⟩
 ·rw [k_call (c := C) (f := 47) rfl Tryz.func47 rfl (ok 47 (by kernel_rfl)) rfl Tryz.ntmps47 Tryz.results47 (by simp)]
  simp (maxSteps := 1000000) only [go_sem, acondK_bool, f, mcell, newS]
 ·refine ⟨?_, ?_, ?_, .inl ⟨rfl, rfl⟩, .inl ⟨rfl, rfl⟩, .inl ⟨rfl, rfl⟩, ?_, ?_, ?_, ?_, ?_, ?_⟩
  ·simp
  ·simp [mapE, newS]
  ·simp [mapE, newS]
  all_goals first | (intro t n t' n' h; cases h) | (simp)
def avS (op : Int) (name : Bytes) (max : Int) (a b : E) (body els : List Stm) : AV :=
 .agg [.d (.int .i64 op), .d (.str name), .d (.int .i64 max), .d (.int .i64 a.op), .d (.int .i64 a.n), .d (.str a.s), .d (.slice (a.args.map E.row)), .d (.int .i64 b.op), .d (.int .i64 b.n), .d (.str b.s), .d (.slice (b.args.map E.row)), .d (.slice (body.map Stm.row)), .d (.slice (els.map Stm.row))]
theorem st1_ok {A : AHeap} {x : Ids} {m m1 : Mc} {n0 : Nat} (hS : HS A x m) (hm : MOk m n0) (name : Bytes) (max : Int) (a b : E) (body els : List Stm) (hn : n0 + nodE a ≤ 1099511627776) (he : EvalsTo x a) {v : Vl} (hv : evE a m = .ok v m1) :
  Does 89 [.ptr x.m 0, avS 1 name max a b body els] A x (.ok (.tuple []) { m1 with vars := setE m1.vars name v }) := by
 have h := hS
 obtain ⟨ov, rv, wv, h⟩ := h
 have hc := h.cell
 unfold mcell at hc
 have ev := he A m n0 hS hm hn
 rw [hv] at ev
 obtain ⟨B, a1, a2, a3⟩ := ev
 obtain ⟨ov', rv', wv', h'⟩ := a2
 have hq := h'.updV (setE m1.vars name v)
 have hB : HS _ x { m1 with vars := setE m1.vars name v } := ⟨_, _, _, hq⟩
 obtain ⟨k1, k2⟩ := keep_fin (f := 89) (v := .tuple []) nice_t hS hB (a3.trans (h'.keepV _))
 refine ⟨_, ?_, k1, k2⟩
 have e := fun B => finR (f := 89) (A := A) (B := B) nice_t
 have up := aupd_mapE name v m1.vars
 have hvB := h'.vars
 have pl : aplainV (.agg [.d (.int .i64 v.kind), .d (.int .i64 v.n), .d (.str v.s)]) = true := rfl
 simp only [Vl.av] at up a1
 simp only [E.av, eV] at a1
 rw [k_call (c := C) (f := 89) rfl Tryz.func89 rfl (ok 89 (by kernel_rfl)) rfl Tryz.ntmps89 Tryz.results89 (by simp)]
 simp (maxSteps := 1000000) only [go_sem, acondK_bool, k_drawn_t, hc, a1, hvB, up, pl, amuM, avS]
 have ldA : aload A 1 false (.ptr x.m 4) = some (.mapr x.v) := by simp only [aload, hc]; rfl
 have ldB : aload B 1 false (.ptr x.m 4) = some (.mapr x.v) := by
  have hc' := h'.cell
  unfold mcell at hc'
  simp only [aload, hc']; rfl
 have ldD : aload ⟨B.objs.set x.v (.map (mapE (setE m1.vars name v))), B.bufs⟩ 1 false (.ptr x.m 4) = some (.mapr x.v) := by
  have hc' := hq.cell
  unfold mcell at hc'
  simp only [aload, hc']; rfl
 refine Eq.trans (ctE_free (free := [3]) (by repeat (first | exact MLe.nil | apply MLe.qq | apply MLe.q | apply MLe.o | apply MLe.b | apply MLe.l)) ?_ (by kernel_rfl)) ?_
 ·intro m' hm' hi
  simp only [List.nil_append, List.append_assoc, List.cons_append, List.mem_cons, List.not_mem_nil, or_false] at hm'
  rcases hm' with rfl | rfl | rfl | rfl | rfl | rfl | rfl | rfl | rfl | rfl | rfl
  all_goals first | (exact absurd hi Bool.false_ne_true) | skip
  refine ⟨1, false, .ptr x.m 4, rfl, ?_⟩
  intro mm hmm
  simp only [List.nil_append, List.append_assoc, List.cons_append, List.mem_cons, List.not_mem_nil, or_false] at hmm
  rcases hmm with rfl | rfl | rfl | rfl | rfl | rfl | rfl | rfl | rfl | rfl | rfl
  all_goals simp only [achg, ldA, ldB, ldD, ne_eq, not_true_eq_false, not_false_eq_true]
 ·simp (maxSteps := 1000000) only [go_sem, acondK_bool, e, mcell]
theorem st1_stop {A : AHeap} {x : Ids} {m mF : Mc} {n0 : Nat} (hS : HS A x m) (hm : MOk m n0) (name : Bytes) (max : Int) (a b : E) (body els : List Stm) (hn : n0 + nodE a ≤ 1099511627776) (he : EvalsTo x a) {z : Stp} (hv : evE a m = .stop z mF) :
  Does 89 [.ptr x.m 0, avS 1 name max a b body els] A x (.stop z mF) := by
 have h := hS
 obtain ⟨ov, rv, wv, h⟩ := h
 have hc := h.cell
 unfold mcell at hc
 have ev := he A m n0 hS hm hn
 rw [hv] at ev
 obtain ⟨B, a2, a3, a1⟩ := ev
 obtain ⟨k1, k2⟩ := keep_fin (f := 89) (v := z.av) (nice_s _) hS a2 a3
 refine ⟨_, k1, k2, fun R hR => ?_⟩
 have ldA : aload A 1 false (.ptr x.m 4) = some (.mapr x.v) := by simp only [aload, hc]; rfl
 simp only [E.av, eV] at a1
 refine k_pan (c := C) (f := 89) rfl Tryz.func89 rfl (ok 89 (by kernel_rfl)) rfl Tryz.ntmps89 Tryz.results89 (by simp) ?_
 simp (maxSteps := 1000000) only [go_sem, acondK_bool, avS]
 refine p_drawn ?_
 simp (maxSteps := 1000000) only [go_sem, acondK_bool, hc]
 refine pct_here rfl rfl rfl (adrawnP_of (free := [3]) (by repeat (first | exact MLe.nil | apply MLe.qq | apply MLe.q | apply MLe.o | apply MLe.b | apply MLe.l)) ?_ (by kernel_rfl)) ?_
 ·intro m' hm' hi
  simp only [List.nil_append, List.append_assoc, List.cons_append, List.mem_cons, List.not_mem_nil, or_false] at hm'
  rcases hm' with rfl | rfl | rfl | rfl | rfl | rfl | rfl | rfl | rfl
  all_goals first | (exact absurd hi Bool.false_ne_true) | skip
  refine ⟨1, false, .ptr x.m 4, rfl, ?_⟩
  intro mm hmm
  simp only [List.nil_append, List.append_assoc, List.cons_append, List.mem_cons, List.not_mem_nil, or_false] at hmm
  rcases hmm with rfl | rfl | rfl | rfl | rfl | rfl | rfl | rfl | rfl
  all_goals simp only [achg, ldA, ne_eq, not_true_eq_false, not_false_eq_true]
 ·exact a1 _ ((post_fin (nice_s _)).2 hR)
theorem st2_ok {A : AHeap} {x : Ids} {m m1 : Mc} {n0 : Nat} (hS : HS A x m) (hm : MOk m n0) (name : Bytes) (max : Int) (a b : E) (body els : List Stm) (hn : n0 + nodE a ≤ 1099511627776) (he : EvalsTo x a) {v : Vl} (hv : evE a m = .ok v m1) :
  Does 89 [.ptr x.m 0, avS 2 name max a b body els] A x (.ok (.tuple []) { m1 with vars := setE m1.vars name v }) := by
 have h := hS
 obtain ⟨ov, rv, wv, h⟩ := h
 have hc := h.cell
 unfold mcell at hc
 have ev := he A m n0 hS hm hn
 rw [hv] at ev
 obtain ⟨B, a1, a2, a3⟩ := ev
 obtain ⟨ov', rv', wv', h'⟩ := a2
 have hq := h'.updV (setE m1.vars name v)
 have hB : HS _ x { m1 with vars := setE m1.vars name v } := ⟨_, _, _, hq⟩
 obtain ⟨k1, k2⟩ := keep_fin (f := 89) (v := .tuple []) nice_t hS hB (a3.trans (h'.keepV _))
 refine ⟨_, ?_, k1, k2⟩
 have e := fun B => finR (f := 89) (A := A) (B := B) nice_t
 have up := aupd_mapE name v m1.vars
 have hvB := h'.vars
 have pl : aplainV (.agg [.d (.int .i64 v.kind), .d (.int .i64 v.n), .d (.str v.s)]) = true := rfl
 simp only [Vl.av] at up a1
 simp only [E.av, eV] at a1
 rw [k_call (c := C) (f := 89) rfl Tryz.func89 rfl (ok 89 (by kernel_rfl)) rfl Tryz.ntmps89 Tryz.results89 (by simp)]
 simp (maxSteps := 1000000) only [go_sem, acondK_bool, k_drawn_t, hc, a1, hvB, up, pl, amuM, avS]
 have ldA : aload A 1 false (.ptr x.m 4) = some (.mapr x.v) := by simp only [aload, hc]; rfl
 have ldB : aload B 1 false (.ptr x.m 4) = some (.mapr x.v) := by
  have hc' := h'.cell
  unfold mcell at hc'
  simp only [aload, hc']; rfl
 have ldD : aload ⟨B.objs.set x.v (.map (mapE (setE m1.vars name v))), B.bufs⟩ 1 false (.ptr x.m 4) = some (.mapr x.v) := by
  have hc' := hq.cell
  unfold mcell at hc'
  simp only [aload, hc']; rfl
 refine Eq.trans (ctE_free (free := [3]) (by repeat (first | exact MLe.nil | apply MLe.qq | apply MLe.q | apply MLe.o | apply MLe.b | apply MLe.l)) ?_ (by kernel_rfl)) ?_
 ·intro m' hm' hi
  simp only [List.nil_append, List.append_assoc, List.cons_append, List.mem_cons, List.not_mem_nil, or_false] at hm'
  rcases hm' with rfl | rfl | rfl | rfl | rfl | rfl | rfl | rfl | rfl | rfl | rfl
  all_goals first | (exact absurd hi Bool.false_ne_true) | skip
  refine ⟨1, false, .ptr x.m 4, rfl, ?_⟩
  intro mm hmm
  simp only [List.nil_append, List.append_assoc, List.cons_append, List.mem_cons, List.not_mem_nil, or_false] at hmm
  rcases hmm with rfl | rfl | rfl | rfl | rfl | rfl | rfl | rfl | rfl | rfl | rfl
  all_goals simp only [achg, ldA, ldB, ldD, ne_eq, not_true_eq_false, not_false_eq_true]
 ·simp (maxSteps := 1000000) only [go_sem, acondK_bool, e, mcell]
theorem st2_stop {A : AHeap} {x : Ids} {m mF : Mc} {n0 : Nat} (hS : HS A x m) (hm : MOk m n0) (name : Bytes) (max : Int) (a b : E) (body els : List Stm) (hn : n0 + nodE a ≤ 1099511627776) (he : EvalsTo x a) {z : Stp} (hv : evE a m = .stop z mF) :
  Does 89 [.ptr x.m 0, avS 2 name max a b body els] A x (.stop z mF) := by
 have h := hS
 obtain ⟨ov, rv, wv, h⟩ := h
 have hc := h.cell
 unfold mcell at hc
 have ev := he A m n0 hS hm hn
 rw [hv] at ev
 obtain ⟨B, a2, a3, a1⟩ := ev
 obtain ⟨k1, k2⟩ := keep_fin (f := 89) (v := z.av) (nice_s _) hS a2 a3
 refine ⟨_, k1, k2, fun R hR => ?_⟩
 have ldA : aload A 1 false (.ptr x.m 4) = some (.mapr x.v) := by simp only [aload, hc]; rfl
 simp only [E.av, eV] at a1
 refine k_pan (c := C) (f := 89) rfl Tryz.func89 rfl (ok 89 (by kernel_rfl)) rfl Tryz.ntmps89 Tryz.results89 (by simp) ?_
 simp (maxSteps := 1000000) only [go_sem, acondK_bool, avS]
 refine p_drawn ?_
 simp (maxSteps := 1000000) only [go_sem, acondK_bool, hc]
 refine pct_here rfl rfl rfl (adrawnP_of (free := [3]) (by repeat (first | exact MLe.nil | apply MLe.qq | apply MLe.q | apply MLe.o | apply MLe.b | apply MLe.l)) ?_ (by kernel_rfl)) ?_
 ·intro m' hm' hi
  simp only [List.nil_append, List.append_assoc, List.cons_append, List.mem_cons, List.not_mem_nil, or_false] at hm'
  rcases hm' with rfl | rfl | rfl | rfl | rfl | rfl | rfl | rfl | rfl
  all_goals first | (exact absurd hi Bool.false_ne_true) | skip
  refine ⟨1, false, .ptr x.m 4, rfl, ?_⟩
  intro mm hmm
  simp only [List.nil_append, List.append_assoc, List.cons_append, List.mem_cons, List.not_mem_nil, or_false] at hmm
  rcases hmm with rfl | rfl | rfl | rfl | rfl | rfl | rfl | rfl | rfl
  all_goals simp only [achg, ldA, ne_eq, not_true_eq_false, not_false_eq_true]
 ·exact a1 _ ((post_fin (nice_s _)).2 hR)
theorem st8_stop {A : AHeap} {x : Ids} {m : Mc} (hS : HS A x m) (name : Bytes) (max : Int) (a b : E) (body els : List Stm) : Does 89 [.ptr x.m 0, avS 8 name max a b body els] A x (.stop (abt max) m) := by
 obtain ⟨k1, k2⟩ := keep_fin (f := 89) (v := (abt max).av) (nice_s _) hS hS (Keep.refl A x)
 refine ⟨_, k1, k2, fun R hR => ?_⟩
 refine k_pan (c := C) (f := 89) rfl Tryz.func89 rfl (ok 89 (by kernel_rfl)) rfl Tryz.ntmps89 Tryz.results89 (by simp) ?_
 simp (maxSteps := 1000000) only [go_sem, acondK_bool, avS]
 exact abortP ((post_fin (nice_s _)).2 hR)
theorem st0_ok {A : AHeap} {x : Ids} {m : Mc} (hS : HS A x m) (op : Int) (name : Bytes) (max : Int) (a b : E) (body els : List Stm) (h1 : decide (op = 1) = false) (h2 : decide (op = 2) = false) (h3 : decide (op = 3) = false) (h4 : decide (op = 4) = false)
  (h5 : decide (op = 5) = false) (h6 : decide (op = 6) = false) (h7 : decide (op = 7) = false) (h8 : decide (op = 8) = false) : Does 89 [.ptr x.m 0, avS op name max a b body els] A x (.ok (.tuple []) m) := by
 obtain ⟨k1, k2⟩ := keep_fin (f := 89) (v := .tuple []) nice_t hS hS (Keep.refl A x)
 refine ⟨_, ?_, k1, k2⟩
 have e := fun B => finR (f := 89) (A := A) (B := B) nice_t
 rw [k_call (c := C) (f := 89) rfl Tryz.func89 rfl (ok 89 (by kernel_rfl)) rfl Tryz.ntmps89 Tryz.results89 (by simp)]
 simp (maxSteps := 1000000) only [go_sem, acondK_bool, avS, h1, h2, h3, h4, h5, h6, h7, h8, e]
theorem st7_stop {A : AHeap} {x : Ids} {m mF : Mc} {n0 : Nat} (hS : HS A x m) (hm : MOk m n0) (name : Bytes) (max : Int) (a b : E) (body els : List Stm) (hn : n0 + nodE a ≤ 1099511627776) (he : EvalsTo x a) {z : Stp} (hv : evE a m = .stop z mF) :
  Does 89 [.ptr x.m 0, avS 7 name max a b body els] A x (.stop z mF) := by
 have ev := he A m n0 hS hm hn
 rw [hv] at ev
 obtain ⟨B, a2, a3, a1⟩ := ev
 obtain ⟨k1, k2⟩ := keep_fin (f := 89) (v := z.av) (nice_s _) hS a2 a3
 refine ⟨_, k1, k2, fun R hR => ?_⟩
 have no : acl C 123 [.ptr x.m 0, E.av a] A = none := pcl_no pxNo (a1 (fun _ _ => True) trivial)
 simp only [E.av, eV] at a1 no
 refine k_pan (c := C) (f := 89) rfl Tryz.func89 rfl (ok 89 (by kernel_rfl)) rfl Tryz.ntmps89 Tryz.results89 (by simp) ?_
 simp (maxSteps := 1000000) only [go_sem, acondK_bool, avS, no]
 exact a1 _ ((post_fin (nice_s _)).2 hR)
theorem st7_ok {A : AHeap} {x : Ids} {m m1 : Mc} {n0 : Nat} (hS : HS A x m) (hm : MOk m n0) (ho : m1.out.length ≤ 16) (name : Bytes) (max : Int) (a b : E) (body els : List Stm) (hn : n0 + nodE a ≤ 1099511627776) (he : EvalsTo x a) {v : Vl} (hv : evE a m = .ok v m1) :
  Does 89 [.ptr x.m 0, avS 7 name max a b body els] A x (mustR (decide (v.kind = 1) || decide (v.kind = 2)) m1 (emitR m1 v)).rs := by
 have ev := he A m n0 hS hm hn
 rw [hv] at ev
 obtain ⟨B, a1, a2, a3⟩ := ev
 have t1 := mustT B
 have t2 := mustN B
 have em := emitP a2 v ho
 rw [← emitR_rs] at em
 simp only [Vl.av] at a1 em
 simp only [E.av, eV] at a1
 have bad : (decide (v.kind = 1) || decide (v.kind = 2)) = false → Does 89 [.ptr x.m 0, avS 7 name max a b body els] A x (.stop (abt 1009) m1) := by
  intro hq
  have q1 : decide (v.kind = 1) = false := by cases h : decide (v.kind = 1) <;> simp_all
  have q2 : decide (v.kind = 2) = false := by cases h : decide (v.kind = 2) <;> simp_all
  obtain ⟨k1, k2⟩ := keep_fin (f := 89) (v := (abt 1009).av) (nice_s _) hS a2 a3
  refine ⟨_, k1, k2, fun R hR => ?_⟩
  refine k_pan (c := C) (f := 89) rfl Tryz.func89 rfl (ok 89 (by kernel_rfl)) rfl Tryz.ntmps89 Tryz.results89 (by simp) ?_
  simp (maxSteps := 1000000) only [go_sem, acondK_bool, avS, a1, q1, q2, t2]
  exact mustF _ ((post_fin (nice_s _)).2 hR)
 have good : (decide (v.kind = 1) || decide (v.kind = 2)) = true → Does 89 [.ptr x.m 0, avS 7 name max a b body els] A x (emitR m1 v).rs := by
  intro hq
  cases hr : emitR m1 v with
  | ok m2 =>
    rw [hr] at em
    obtain ⟨D, e1, e2, e3⟩ := em
    obtain ⟨k1, k2⟩ := keep_fin (f := 89) (v := .tuple []) nice_t hS e2 (a3.trans e3)
    refine ⟨_, ?_, k1, k2⟩
    have e := fun B => finR (f := 89) (A := A) (B := B) nice_t
    cases q1 : decide (v.kind = 1) with
    | true =>
      rw [k_call (c := C) (f := 89) rfl Tryz.func89 rfl (ok 89 (by kernel_rfl)) rfl Tryz.ntmps89 Tryz.results89 (by simp)]
      simp (maxSteps := 1000000) only [go_sem, acondK_bool, avS, a1, q1, t1, e1, e]
    | false =>
      have q2 : decide (v.kind = 2) = true := by rw [q1] at hq; simpa using hq
      rw [k_call (c := C) (f := 89) rfl Tryz.func89 rfl (ok 89 (by kernel_rfl)) rfl Tryz.ntmps89 Tryz.results89 (by simp)]
      simp (maxSteps := 1000000) only [go_sem, acondK_bool, avS, a1, q1, q2, t1, e1, e]
  | stop z mF =>
    rw [hr] at em
    obtain ⟨D, e2, e3, e1⟩ := em
    obtain ⟨k1, k2⟩ := keep_fin (f := 89) (v := z.av) (nice_s _) hS e2 (a3.trans e3)
    refine ⟨_, k1, k2, fun R hR => ?_⟩
    have no := pcl_no pxNo (e1 (fun _ _ => True) trivial)
    cases q1 : decide (v.kind = 1) with
    | true =>
      refine k_pan (c := C) (f := 89) rfl Tryz.func89 rfl (ok 89 (by kernel_rfl)) rfl Tryz.ntmps89 Tryz.results89 (by simp) ?_
      simp (maxSteps := 1000000) only [go_sem, acondK_bool, avS, a1, q1, t1, no]
      exact e1 _ ((post_fin (nice_s _)).2 hR)
    | false =>
      have q2 : decide (v.kind = 2) = true := by rw [q1] at hq; simpa using hq
      refine k_pan (c := C) (f := 89) rfl Tryz.func89 rfl (ok 89 (by kernel_rfl)) rfl Tryz.ntmps89 Tryz.results89 (by simp) ?_
      simp (maxSteps := 1000000) only [go_sem, acondK_bool, avS, a1, q1, q2, t1, no]
      exact e1 _ ((post_fin (nice_s _)).2 hR)
 unfold mustR
 cases hq : (decide (v.kind = 1) || decide (v.kind = 2)) with
 | true => exact good hq
 | false => exact bad hq
theorem st4_stop {A : AHeap} {x : Ids} {m mF : Mc} {n0 : Nat} (hS : HS A x m) (hm : MOk m n0) (name : Bytes) (max : Int) (a b : E) (body els : List Stm) (hn : n0 + nodE a ≤ 1099511627776) (he : EvalsTo x a) {z : Stp} (hv : evE a m = .stop z mF) :
  Does 89 [.ptr x.m 0, avS 4 name max a b body els] A x (.stop z mF) := by
 have ev := he A m n0 hS hm hn
 rw [hv] at ev
 obtain ⟨B, a2, a3, a1⟩ := ev
 obtain ⟨k1, k2⟩ := keep_fin (f := 89) (v := z.av) (nice_s _) hS a2 a3
 refine ⟨_, k1, k2, fun R hR => ?_⟩
 have no : acl C 123 [.ptr x.m 0, E.av a] A = none := pcl_no pxNo (a1 (fun _ _ => True) trivial)
 simp only [E.av, eV] at a1 no
 refine k_pan (c := C) (f := 89) rfl Tryz.func89 rfl (ok 89 (by kernel_rfl)) rfl Tryz.ntmps89 Tryz.results89 (by simp) ?_
 simp (maxSteps := 1000000) only [go_sem, acondK_bool, avS, no]
 exact a1 _ ((post_fin (nice_s _)).2 hR)
theorem st4_ok {A : AHeap} {x : Ids} {m m1 : Mc} {n0 : Nat} (hS : HS A x m) (hm : MOk m n0) (hw : m1.writes.length ≤ 1099511627776) (hf : m1.fw.length ≤ 1099511627776) (name : Bytes) (max : Int) (a b : E) (body els : List Stm) (hn : n0 + nodE a ≤ 1099511627776) (he : EvalsTo x a) {v : Vl} (hk : v.s.length ≤ 1099511627776) (hv : evE a m = .ok v m1) :
  Does 89 [.ptr x.m 0, avS 4 name max a b body els] A x (mustR (decide (v.kind = 2)) m1 (storeR m1 v.s zeroV)).rs := by
 have ev := he A m n0 hS hm hn
 rw [hv] at ev
 obtain ⟨B, a1, a2, a3⟩ := ev
 have t1 := mustT B
 have t2 := mustN B
 have em := storeP a2 v.s zeroV hk hw hf
 rw [← storeR_rs] at em
 simp only [Vl.av, zeroV] at a1 em
 simp only [E.av, eV] at a1
 have bad : (decide (v.kind = 2)) = false → Does 89 [.ptr x.m 0, avS 4 name max a b body els] A x (.stop (abt 1009) m1) := by
  intro hq
  have q1 := hq
  obtain ⟨k1, k2⟩ := keep_fin (f := 89) (v := (abt 1009).av) (nice_s _) hS a2 a3
  refine ⟨_, k1, k2, fun R hR => ?_⟩
  refine k_pan (c := C) (f := 89) rfl Tryz.func89 rfl (ok 89 (by kernel_rfl)) rfl Tryz.ntmps89 Tryz.results89 (by simp) ?_
  simp (maxSteps := 1000000) only [go_sem, acondK_bool, avS, a1, q1, t2]
  exact mustF _ ((post_fin (nice_s _)).2 hR)
 have good : (decide (v.kind = 2)) = true → Does 89 [.ptr x.m 0, avS 4 name max a b body els] A x (storeR m1 v.s zeroV).rs := by
  intro hq
  cases hr : storeR m1 v.s zeroV with
  | ok m2 =>
    rw [show storeR m1 v.s ⟨0, 0, []⟩ = _ from hr] at em
    obtain ⟨D, e1, e2, e3⟩ := em
    obtain ⟨k1, k2⟩ := keep_fin (f := 89) (v := .tuple []) nice_t hS e2 (a3.trans e3)
    refine ⟨_, ?_, k1, k2⟩
    have e := fun B => finR (f := 89) (A := A) (B := B) nice_t
    have q1 := hq
    rw [k_call (c := C) (f := 89) rfl Tryz.func89 rfl (ok 89 (by kernel_rfl)) rfl Tryz.ntmps89 Tryz.results89 (by simp)]
    simp (maxSteps := 1000000) only [go_sem, acondK_bool, avS, a1, q1, t1, e1, e]
  | stop z mF =>
    rw [show storeR m1 v.s ⟨0, 0, []⟩ = _ from hr] at em
    obtain ⟨D, e2, e3, e1⟩ := em
    obtain ⟨k1, k2⟩ := keep_fin (f := 89) (v := z.av) (nice_s _) hS e2 (a3.trans e3)
    refine ⟨_, k1, k2, fun R hR => ?_⟩
    have no := pcl_no pxNo (e1 (fun _ _ => True) trivial)
    have q1 := hq
    refine k_pan (c := C) (f := 89) rfl Tryz.func89 rfl (ok 89 (by kernel_rfl)) rfl Tryz.ntmps89 Tryz.results89 (by simp) ?_
    simp (maxSteps := 1000000) only [go_sem, acondK_bool, avS, a1, q1, t1, no]
    exact e1 _ ((post_fin (nice_s _)).2 hR)
 unfold mustR
 cases hq : (decide (v.kind = 2)) with
 | true => exact good hq
 | false => exact bad hq
theorem st3_stop {A : AHeap} {x : Ids} {m mF : Mc} {n0 : Nat} (hS : HS A x m) (hm : MOk m n0) (name : Bytes) (max : Int) (a b : E) (body els : List Stm) (hn : n0 + nodE a ≤ 1099511627776) (he : EvalsTo x a) {z : Stp} (hv : evE a m = .stop z mF) :
  Does 89 [.ptr x.m 0, avS 3 name max a b body els] A x (.stop z mF) := by
 have ev := he A m n0 hS hm hn
 rw [hv] at ev
 obtain ⟨B, a2, a3, a1⟩ := ev
 obtain ⟨k1, k2⟩ := keep_fin (f := 89) (v := z.av) (nice_s _) hS a2 a3
 refine ⟨_, k1, k2, fun R hR => ?_⟩
 have no : acl C 123 [.ptr x.m 0, E.av a] A = none := pcl_no pxNo (a1 (fun _ _ => True) trivial)
 simp only [E.av, eV] at a1 no
 refine k_pan (c := C) (f := 89) rfl Tryz.func89 rfl (ok 89 (by kernel_rfl)) rfl Tryz.ntmps89 Tryz.results89 (by simp) ?_
 simp (maxSteps := 1000000) only [go_sem, acondK_bool, avS, no]
 exact a1 _ ((post_fin (nice_s _)).2 hR)
theorem st3_stopB {A : AHeap} {x : Ids} {m m1 mF : Mc} {n0 n1 : Nat} (hS : HS A x m) (hm : MOk m n0) (hm1 : MOk m1 n1) (name : Bytes) (max : Int) (a b : E) (body els : List Stm) (hn : n0 + nodE a ≤ 1099511627776) (hn1 : n1 + nodE b ≤ 1099511627776) (he : EvalsTo x a) (hb : EvalsTo x b) {v : Vl} {z : Stp} (hv : evE a m = .ok v m1) (hw : evE b m1 = .stop z mF) :
  Does 89 [.ptr x.m 0, avS 3 name max a b body els] A x (.stop z mF) := by
 have ev := he A m n0 hS hm hn
 rw [hv] at ev
 obtain ⟨B, b1, b2, b3⟩ := ev
 have ew := hb B m1 n1 b2 hm1 hn1
 rw [hw] at ew
 obtain ⟨D, a2, a3, a1⟩ := ew
 obtain ⟨k1, k2⟩ := keep_fin (f := 89) (v := z.av) (nice_s _) hS a2 (b3.trans a3)
 refine ⟨_, k1, k2, fun R hR => ?_⟩
 have no : acl C 123 [.ptr x.m 0, E.av b] B = none := pcl_no pxNo (a1 (fun _ _ => True) trivial)
 simp only [E.av, eV, Vl.av] at a1 no b1
 refine k_pan (c := C) (f := 89) rfl Tryz.func89 rfl (ok 89 (by kernel_rfl)) rfl Tryz.ntmps89 Tryz.results89 (by simp) ?_
 simp (maxSteps := 1000000) only [go_sem, acondK_bool, avS, b1, no]
 exact a1 _ ((post_fin (nice_s _)).2 hR)
theorem st5_stop {A : AHeap} {x : Ids} {m mF : Mc} {n0 : Nat} (hS : HS A x m) (hm : MOk m n0) (name : Bytes) (max : Int) (a b : E) (body els : List Stm) (hn : n0 + nodE a ≤ 1099511627776) (he : EvalsTo x a) {z : Stp} (hv : evE a m = .stop z mF) :
  Does 89 [.ptr x.m 0, avS 5 name max a b body els] A x (.stop z mF) := by
 have ev := he A m n0 hS hm hn
 rw [hv] at ev
 obtain ⟨B, a2, a3, a1⟩ := ev
 obtain ⟨k1, k2⟩ := keep_fin (f := 89) (v := z.av) (nice_s _) hS a2 a3
 refine ⟨_, k1, k2, fun R hR => ?_⟩
 have no : acl C 123 [.ptr x.m 0, E.av a] A = none := pcl_no pxNo (a1 (fun _ _ => True) trivial)
 simp only [E.av, eV] at a1 no
 refine k_pan (c := C) (f := 89) rfl Tryz.func89 rfl (ok 89 (by kernel_rfl)) rfl Tryz.ntmps89 Tryz.results89 (by simp) ?_
 simp (maxSteps := 1000000) only [go_sem, acondK_bool, avS, no]
 exact a1 _ ((post_fin (nice_s _)).2 hR)
theorem st3_ok {A : AHeap} {x : Ids} {m m1 m2 : Mc} {n0 n1 : Nat} (hS : HS A x m) (hm : MOk m n0) (hm1 : MOk m1 n1) (hw : m2.writes.length ≤ 1099511627776) (hf : m2.fw.length ≤ 1099511627776) (name : Bytes) (max : Int) (a b : E) (body els : List Stm) (hn : n0 + nodE a ≤ 1099511627776) (hn1 : n1 + nodE b ≤ 1099511627776) (he : EvalsTo x a) (hb : EvalsTo x b) {u v : Vl} (hk : u.s.length ≤ 1099511627776) (hu : evE a m = .ok u m1) (hv : evE b m1 = .ok v m2) :
  Does 89 [.ptr x.m 0, avS 3 name max a b body els] A x (mustR (decide (u.kind = 2) && (decide (v.kind = 1) || decide (v.kind = 2))) m2 (storeR m2 u.s v)).rs := by
 have ev := he A m n0 hS hm hn
 rw [hu] at ev
 obtain ⟨B0, b1, b2, b3⟩ := ev
 have ew := hb B0 m1 n1 b2 hm1 hn1
 rw [hv] at ew
 obtain ⟨B, a1, a2, a3'⟩ := ew
 have a3 := b3.trans a3'
 have t1 := mustT B
 have t2 := mustN B
 have em := storeP a2 u.s v hk hw hf
 rw [← storeR_rs] at em
 simp only [Vl.av] at a1 b1 em
 simp only [E.av, eV] at a1 b1
 have bad : (decide (u.kind = 2) && (decide (v.kind = 1) || decide (v.kind = 2))) = false → Does 89 [.ptr x.m 0, avS 3 name max a b body els] A x (.stop (abt 1009) m2) := by
  intro hq
  obtain ⟨k1, k2⟩ := keep_fin (f := 89) (v := (abt 1009).av) (nice_s _) hS a2 a3
  refine ⟨_, k1, k2, fun R hR => ?_⟩
  cases q0 : decide (u.kind = 2) with
  | false =>
    refine k_pan (c := C) (f := 89) rfl Tryz.func89 rfl (ok 89 (by kernel_rfl)) rfl Tryz.ntmps89 Tryz.results89 (by simp) ?_
    simp (maxSteps := 1000000) only [go_sem, acondK_bool, avS, a1, b1, q0, t2]
    exact mustF _ ((post_fin (nice_s _)).2 hR)
  | true =>
    have q1 : decide (v.kind = 1) = false := by cases h : decide (v.kind = 1) <;> simp_all
    have q2 : decide (v.kind = 2) = false := by cases h : decide (v.kind = 2) <;> simp_all
    refine k_pan (c := C) (f := 89) rfl Tryz.func89 rfl (ok 89 (by kernel_rfl)) rfl Tryz.ntmps89 Tryz.results89 (by simp) ?_
    simp (maxSteps := 1000000) only [go_sem, acondK_bool, avS, a1, b1, q0, q1, q2, t2]
    exact mustF _ ((post_fin (nice_s _)).2 hR)
 have good : (decide (u.kind = 2) && (decide (v.kind = 1) || decide (v.kind = 2))) = true → Does 89 [.ptr x.m 0, avS 3 name max a b body els] A x (storeR m2 u.s v).rs := by
  intro hq
  have q0 : decide (u.kind = 2) = true := by cases h : decide (u.kind = 2) <;> simp_all
  cases hr : storeR m2 u.s v with
  | ok m3 =>
    rw [hr] at em
    obtain ⟨D, e1, e2, e3⟩ := em
    obtain ⟨k1, k2⟩ := keep_fin (f := 89) (v := .tuple []) nice_t hS e2 (a3.trans e3)
    refine ⟨_, ?_, k1, k2⟩
    have e := fun B => finR (f := 89) (A := A) (B := B) nice_t
    cases q1 : decide (v.kind = 1) with
    | true =>
      rw [k_call (c := C) (f := 89) rfl Tryz.func89 rfl (ok 89 (by kernel_rfl)) rfl Tryz.ntmps89 Tryz.results89 (by simp)]
      simp (maxSteps := 1000000) only [go_sem, acondK_bool, avS, a1, b1, q0, q1, t1, e1, e]
    | false =>
      have q2 : decide (v.kind = 2) = true := by rw [q0, q1] at hq; simpa using hq
      rw [k_call (c := C) (f := 89) rfl Tryz.func89 rfl (ok 89 (by kernel_rfl)) rfl Tryz.ntmps89 Tryz.results89 (by simp)]
      simp (maxSteps := 1000000) only [go_sem, acondK_bool, avS, a1, b1, q0, q1, q2, t1, e1, e]
  | stop z mF =>
    rw [hr] at em
    obtain ⟨D, e2, e3, e1⟩ := em
    obtain ⟨k1, k2⟩ := keep_fin (f := 89) (v := z.av) (nice_s _) hS e2 (a3.trans e3)
    refine ⟨_, k1, k2, fun R hR => ?_⟩
    have no := pcl_no pxNo (e1 (fun _ _ => True) trivial)
    cases q1 : decide (v.kind = 1) with
    | true =>
      refine k_pan (c := C) (f := 89) rfl Tryz.func89 rfl (ok 89 (by kernel_rfl)) rfl Tryz.ntmps89 Tryz.results89 (by simp) ?_
      simp (maxSteps := 1000000) only [go_sem, acondK_bool, avS, a1, b1, q0, q1, t1, no]
      exact e1 _ ((post_fin (nice_s _)).2 hR)
    | false =>
      have q2 : decide (v.kind = 2) = true := by rw [q0, q1] at hq; simpa using hq
      refine k_pan (c := C) (f := 89) rfl Tryz.func89 rfl (ok 89 (by kernel_rfl)) rfl Tryz.ntmps89 Tryz.results89 (by simp) ?_
      simp (maxSteps := 1000000) only [go_sem, acondK_bool, avS, a1, b1, q0, q1, q2, t1, no]
      exact e1 _ ((post_fin (nice_s _)).2 hR)
 unfold mustR
 cases hq : (decide (u.kind = 2) && (decide (v.kind = 1) || decide (v.kind = 2))) with
 | true => exact good hq
 | false => exact bad hq
end Go.Proofs.YtpbdjgdmhfibmaaGreatDoor
set_option linter.all false
namespace Go.Proofs.YtpbdjgdmhfibmaaGreatDoor
open Go.Abs
mutual
def stW (S : Nat) : Stm → Prop
 | .mk _ _ _ a b body els => litE a ∧ litE b ∧ nodE a + nodE b ≤ S ∧ slW S body ∧ slW S els
def slW (S : Nat) : List Stm → Prop
 | [] => True
 | x :: l => stW S x ∧ slW S l
end
theorem slW_mem {S : Nat} : ∀ {l : List Stm} {x : Stm}, slW S l → x ∈ l → stW S x
 | y :: l, x, h, hx => by
   simp only [slW] at h
   rcases List.mem_cons.1 hx with rfl | hx
   ·exact h.1
   ·exact slW_mem h.2 hx
theorem XI.mokR {S : Nat} {m : Mc} {j : Nat} (h : XI S m j) : MOk m m.reads.length := ⟨h.vars, h.own, h.get, h.state, h.fr, Nat.le_refl _⟩
theorem XI.rdl {S : Nat} {m : Mc} {j : Nat} (h : XI S m j) : m.reads.length + S * j ≤ S * 16385 := by
 have h1 := h.reads
 have h2 : S * m.steps.toNat ≤ S * 16385 := Nat.mul_le_mul_left S (by have := h.s1; have := h.s0; omega)
 omega
theorem XI.wrl {S : Nat} {m : Mc} {j : Nat} (h : XI S m j) : m.writes.length + j ≤ 16385 := by
 have h1 := h.writes
 have := h.s1; have := h.s0
 omega
theorem MOk.at {m : Mc} {a : Nat} (h : MOk m a) : MOk m m.reads.length := ⟨h.vars, h.own, h.get, h.state, h.fr, Nat.le_refl _⟩
structure XQ (S : Nat) (m : Mc) (r : Nat) : Prop where
 base : XI S m 0
 reads : m.reads.length + r ≤ S * m.steps.toNat
 writes : m.writes.length + 1 ≤ m.steps.toNat
 steps : m.steps ≤ 16384
theorem XQ.of {S : Nat} {m : Mc} (h : XI S m 1) (hs : m.steps ≤ 16384) : XQ S m S := ⟨h.less, by have := h.reads; omega, h.writes, hs⟩
theorem XQ.le {S : Nat} {m : Mc} {r t : Nat} (h : XQ S m r) (ht : t ≤ r) : XQ S m t := ⟨h.base, by have := h.reads; omega, h.writes, h.steps⟩
theorem XQ.ev {S : Nat} {m : Mc} {r : Nat} (h : XQ S m r) {e : E} (hl : litE e) (hr : nodE e ≤ r) :
  match evE e m with
  | .ok v q => VOk v ∧ XQ S q (r - nodE e)
  | .stop _ q => XI S q 0 := by
 have h1 := ev_ok e m _ hl h.base.mokR
 have h2 := ev_same e m
 have key : ∀ q, SameR m q → q.reads.length ≤ m.reads.length + nodE e → XQ S q (r - nodE e) := by
  intro q hq hn
  have hR := h.reads
  have hb := h.base
  refine ⟨?_, ?_, ?_, ?_⟩
  ·rw [hq]
   exact ⟨hb.vars, hb.own, hb.get, hb.state, hb.fr, hb.fw, hb.out, hb.s0, hb.s1, by simp only; omega, hb.writes⟩
  ·rw [hq]; simp only; omega
  ·rw [hq]; exact h.writes
  ·rw [hq]; exact h.steps
 cases hv : evE e m with
 | ok v q =>
   rw [hv] at h1 h2
   exact ⟨h1.1, key q h2 h1.2.reads⟩
 | stop z q =>
   rw [hv] at h1 h2
   exact (key q h2 (MOk.reads h1)).base
theorem XI.setV {S : Nat} {m : Mc} {j : Nat} (h : XI S m j) (k : Bytes) {v : Vl} (hv : VOk v) : XI S { m with vars := setE m.vars k v } j := by
 refine ⟨fun i w hw => ?_, h.own, h.get, h.state, h.fr, h.fw, h.out, h.s0, h.s1, h.reads, h.writes⟩
 simp only [look_set] at hw
 split at hw
 ·cases hw; exact hv
 ·exact h.vars i w hw
theorem XQ.setV {S : Nat} {m : Mc} {j : Nat} (h : XQ S m j) (k : Bytes) {v : Vl} (hv : VOk v) : XQ S { m with vars := setE m.vars k v } j :=
 ⟨h.base.setV k hv, h.reads, h.writes, h.steps⟩
def Rx.fine (S : Nat) : Rx → Prop
 | .ok m => XI S m 0 ∧ m.steps ≤ 16384
 | .stop _ m => XI S m 0
theorem fine_bind {S : Nat} {r : Rx} {f : Mc → Rx} (h : r.fine S) (hf : ∀ m, XI S m 0 → m.steps ≤ 16384 → (f m).fine S) : (r.bind f).fine S := by
 cases r with
 | ok m => exact hf m h.1 h.2
 | stop z m => exact h
theorem fine_ev {S : Nat} {m : Mc} {r : Nat} (h : XQ S m r) {e : E} (hl : litE e) (hr : nodE e ≤ r) {f : Vl → Mc → Rx} (hf : ∀ v q, evE e m = .ok v q → VOk v → XQ S q (r - nodE e) → (f v q).fine S) : ((evE e m).bind f).fine S := by
 have h1 := h.ev hl hr
 cases hv : evE e m with
 | ok v q => rw [hv] at h1; exact hf v q hv h1.1 h1.2
 | stop z q => rw [hv] at h1; exact h1
theorem fine_must {S : Nat} {b : Bool} {m : Mc} {k : Rx} (h : XI S m 0) (hk : k.fine S) : (mustR b m k).fine S := by
 unfold mustR
 split
 ·exact hk
 ·exact h
theorem fine_store {S : Nat} {m : Mc} {r : Nat} (h : XQ S m r) (k : Bytes) {v : Vl} (hv : VOk v) : (storeR m k v).fine S := by
 unfold storeR
 split
 ·split
  ·exact h.base
  ·have hb := h.base
   refine ⟨⟨hb.vars, fun i w hw => ?_, hb.get, hb.state, hb.fr, hb.fw, hb.out, hb.s0, hb.s1, hb.reads, ?_⟩, h.steps⟩
   ·simp only [look_set] at hw
    split at hw
    ·cases hw; exact hv
    ·exact hb.own i w hw
   ·have := withS_len m.writes k
    have := h.writes
    simp only; omega
 ·exact h.base
theorem fine_emit {S : Nat} {m : Mc} {r : Nat} (h : XQ S m r) (v : Vl) : (emitR m v).fine S := by
 unfold emitR
 have hb := h.base
 split
 ·exact hb
 ·rename_i hq
  refine ⟨⟨hb.vars, hb.own, hb.get, hb.state, hb.fr, hb.fw, ?_, hb.s0, hb.s1, hb.reads, hb.writes⟩, h.steps⟩
  have := hb.out
  simp only [decide_eq_true_eq] at hq
  simp only [List.length_append, List.length_cons, List.length_nil]
  omega
theorem fine_tick {S : Nat} {m : Mc} (h : XI S m 0) (hs : m.steps ≤ 16384) {f : Mc → Rx} (hf : ∀ q, tickR m = .ok q → XI S q 1 → q.steps ≤ 16384 → (f q).fine S) : ((tickR m).bind f).fine S := by
 have h1 := tick_ok h hs
 cases ht : tickR m with
 | ok q => rw [ht] at h1; exact hf q ht h1.1 h1.2
 | stop z q => rw [ht] at h1; exact h1
theorem zeroV_ok : VOk zeroV := ⟨i64_0, i64_0, by simp [zeroV]⟩
theorem fine_loop {S : Nat} (f : Mc → Rx) (hf : ∀ q, XI S q 0 → q.steps ≤ 16384 → (f q).fine S) (name : Bytes) (hi : Int) (hh : i64 hi) : ∀ (n : Nat) (i : Int) (m : Mc), i64 i → i + n ≤ hi → XI S m 0 → m.steps ≤ 16384 → (loopR f name n i m).fine S
 | 0, _, m, _, _, h, hs => ⟨h, hs⟩
 | n + 1, i, m, h1, h2, h, hs => by
   simp only [loopR]
   refine fine_tick h hs fun q _ hq hqs => ?_
   refine fine_bind (hf _ (hq.setV name (v := ⟨1, i, []⟩) ⟨by unfold i64; simp, h1, by simp⟩).less hqs) fun m2 hm2 hs2 => ?_
   refine fine_loop f hf name hi hh n (i + 1) m2 ?_ (by omega) hm2 hs2
   unfold i64 at *
   omega
mutual
theorem exS_fine (S : Nat) : ∀ (s : Stm) (m : Mc), stW S s → XQ S m S → (exS s m).fine S
 | .mk op name max a b body els, m, hw, hm => by
   simp only [stW] at hw
   obtain ⟨la, lb, hn, wb, we⟩ := hw
   have ih : ∀ q, XI S q 0 → q.steps ≤ 16384 → (exL body q).fine S := fun q h1 h2 => exL_fine S body q wb h1 h2
   have ih2 : ∀ q, XI S q 0 → q.steps ≤ 16384 → (exL els q).fine S := fun q h1 h2 => exL_fine S els q we h1 h2
   simp only [exS]
   split
   ·exact fine_ev hm la (by omega) fun v q _ hv hq => ⟨(hq.setV name hv).base, hq.steps⟩
   split
   ·exact fine_ev hm la (by omega) fun u q _ hu hq => fine_ev hq lb (by omega) fun v q2 _ hv hq2 => fine_must hq2.base (fine_store hq2 _ hv)
   split
   ·exact fine_ev hm la (by omega) fun u q _ hu hq => fine_must hq.base (fine_store hq _ zeroV_ok)
   split
   ·refine fine_ev hm la (by omega) fun u q _ hu hq => fine_must hq.base ?_
    split
    ·exact ih q hq.base hq.steps
    ·exact ih2 q hq.base hq.steps
   split
   ·refine fine_ev hm la (by omega) fun u q _ hu hq => fine_ev hq lb (by omega) fun v q2 _ hv hq2 => fine_must hq2.base ?_
    split
    ·exact hq2.base
    ·have hu' := hu.n
     have hv' := hv.n
     by_cases hlt : u.n < v.n
     ·exact fine_loop _ (fun q h1 h2 => ih q h1 h2) name v.n hv' _ _ _ hu' (by omega) hq2.base hq2.steps
     ·rw [show (v.n - u.n).toNat = 0 by omega]
      exact ⟨hq2.base, hq2.steps⟩
   split
   ·exact fine_ev hm la (by omega) fun u q _ hu hq => fine_must hq.base (fine_emit hq _)
   split
   ·exact hm.base
   ·exact ⟨hm.base, hm.steps⟩
theorem exL_fine (S : Nat) : ∀ (l : List Stm) (m : Mc), slW S l → XI S m 0 → m.steps ≤ 16384 → (exL l m).fine S
 | [], m, _, h, hs => ⟨h, hs⟩
 | x :: l, m, hw, h, hs => by
   simp only [slW] at hw
   simp only [exL]
   exact fine_tick h hs fun q _ hq hqs => fine_bind (exS_fine S x q hw.1 (XQ.of hq hqs)) fun m2 h2 hs2 => exL_fine S l m2 hw.2 h2 hs2
end
end Go.Proofs.YtpbdjgdmhfibmaaGreatDoor
set_option linter.all false
namespace Go.Proofs.YtpbdjgdmhfibmaaGreatDoor
open Go.Abs
attribute [local congr] ite_congr
set_option maxRecDepth 100000
theorem st5_ok {A : AHeap} {x : Ids} {m m1 : Mc} {n0 : Nat} (hS : HS A x m) (hm : MOk m n0) (name : Bytes) (max : Int) (a b : E) (body els : List Stm) (hn : n0 + nodE a ≤ 1099511627776) (he : EvalsTo x a) {v : Vl} (hv : evE a m = .ok v m1) {rb re : Rx}
  (hb : ∀ B, HS B x m1 → Does 51 [.ptr x.m 0, .d (.slice (body.map Stm.row))] B x rb.rs) (hl : ∀ B, HS B x m1 → Does 51 [.ptr x.m 0, .d (.slice (els.map Stm.row))] B x re.rs) :
  Does 89 [.ptr x.m 0, avS 5 name max a b body els] A x (mustR (decide (v.kind = 3)) m1 (if decide (v.n = 1) then rb else re)).rs := by
 have ev := he A m n0 hS hm hn
 rw [hv] at ev
 obtain ⟨B, a1, a2, a3⟩ := ev
 have t1 := mustT B
 have t2 := mustN B
 have hb := hb B a2
 have hl := hl B a2
 simp only [Vl.av] at a1
 simp only [E.av, eV] at a1
 unfold mustR
 cases q0 : decide (v.kind = 3) with
 | false =>
   obtain ⟨k1, k2⟩ := keep_fin (f := 89) (v := (abt 1009).av) (nice_s _) hS a2 a3
   refine ⟨_, k1, k2, fun R hR => ?_⟩
   refine k_pan (c := C) (f := 89) rfl Tryz.func89 rfl (ok 89 (by kernel_rfl)) rfl Tryz.ntmps89 Tryz.results89 (by simp) ?_
   simp (maxSteps := 1000000) only [go_sem, acondK_bool, avS, a1, q0, t2]
   exact mustF _ ((post_fin (nice_s _)).2 hR)
 | true =>
 simp only [if_true]
 cases q1 : decide (v.n = 1) with
 | true =>
   simp only [if_true]
   cases rb with
   | ok m3 =>
     obtain ⟨D, e1, e2, e3⟩ := hb
     obtain ⟨k1, k2⟩ := keep_fin (f := 89) (v := .tuple []) nice_t hS e2 (a3.trans e3)
     refine ⟨_, ?_, k1, k2⟩
     have e := fun B => finR (f := 89) (A := A) (B := B) nice_t
     rw [k_call (c := C) (f := 89) rfl Tryz.func89 rfl (ok 89 (by kernel_rfl)) rfl Tryz.ntmps89 Tryz.results89 (by simp)]
     simp (maxSteps := 1000000) only [go_sem, acondK_bool, avS, a1, q0, q1, t1, e1, e]
   | stop z mF =>
     obtain ⟨D, e2, e3, e1⟩ := hb
     obtain ⟨k1, k2⟩ := keep_fin (f := 89) (v := z.av) (nice_s _) hS e2 (a3.trans e3)
     refine ⟨_, k1, k2, fun R hR => ?_⟩
     have no := pcl_no pxNo (e1 (fun _ _ => True) trivial)
     refine k_pan (c := C) (f := 89) rfl Tryz.func89 rfl (ok 89 (by kernel_rfl)) rfl Tryz.ntmps89 Tryz.results89 (by simp) ?_
     simp (maxSteps := 1000000) only [go_sem, acondK_bool, avS, a1, q0, q1, t1, no]
     exact e1 _ ((post_fin (nice_s _)).2 hR)
 | false =>
   simp only [Bool.false_eq_true, if_false]
   cases re with
   | ok m3 =>
     obtain ⟨D, e1, e2, e3⟩ := hl
     obtain ⟨k1, k2⟩ := keep_fin (f := 89) (v := .tuple []) nice_t hS e2 (a3.trans e3)
     refine ⟨_, ?_, k1, k2⟩
     have e := fun B => finR (f := 89) (A := A) (B := B) nice_t
     rw [k_call (c := C) (f := 89) rfl Tryz.func89 rfl (ok 89 (by kernel_rfl)) rfl Tryz.ntmps89 Tryz.results89 (by simp)]
     simp (maxSteps := 1000000) only [go_sem, acondK_bool, avS, a1, q0, q1, t1, e1, e]
   | stop z mF =>
     obtain ⟨D, e2, e3, e1⟩ := hl
     obtain ⟨k1, k2⟩ := keep_fin (f := 89) (v := z.av) (nice_s _) hS e2 (a3.trans e3)
     refine ⟨_, k1, k2, fun R hR => ?_⟩
     have no := pcl_no pxNo (e1 (fun _ _ => True) trivial)
     refine k_pan (c := C) (f := 89) rfl Tryz.func89 rfl (ok 89 (by kernel_rfl)) rfl Tryz.ntmps89 Tryz.results89 (by simp) ?_
     simp (maxSteps := 1000000) only [go_sem, acondK_bool, avS, a1, q0, q1, t1, no]
     exact e1 _ ((post_fin (nice_s _)).2 hR)
theorem st6_any {A : AHeap} {x : Ids} {m : Mc} (hS : HS A x m) (name : Bytes) (max : Int) (a b : E) (body els : List Stm) {r : Rx}
  (hl : Does 126 [.ptr x.m 0, avS 6 name max a b body els] A x r.rs) : Does 89 [.ptr x.m 0, avS 6 name max a b body els] A x r.rs := by
 simp only [avS] at hl
 cases r with
 | ok m3 =>
   obtain ⟨D, e1, e2, e3⟩ := hl
   obtain ⟨k1, k2⟩ := keep_fin (f := 89) (v := .tuple []) nice_t hS e2 e3
   refine ⟨_, ?_, k1, k2⟩
   have e := fun B => finR (f := 89) (A := A) (B := B) nice_t
   rw [k_call (c := C) (f := 89) rfl Tryz.func89 rfl (ok 89 (by kernel_rfl)) rfl Tryz.ntmps89 Tryz.results89 (by simp)]
   simp (maxSteps := 1000000) only [go_sem, acondK_bool, avS, e1, e]
 | stop z mF =>
   obtain ⟨D, e2, e3, e1⟩ := hl
   obtain ⟨k1, k2⟩ := keep_fin (f := 89) (v := z.av) (nice_s _) hS e2 e3
   refine ⟨_, k1, k2, fun R hR => ?_⟩
   have no := pcl_no pxNo (e1 (fun _ _ => True) trivial)
   refine k_pan (c := C) (f := 89) rfl Tryz.func89 rfl (ok 89 (by kernel_rfl)) rfl Tryz.ntmps89 Tryz.results89 (by simp) ?_
   simp (maxSteps := 1000000) only [go_sem, acondK_bool, avS, no]
   exact e1 _ ((post_fin (nice_s _)).2 hR)
def sav (s : Stm) : AV := avS s.op s.name s.max s.a s.b s.body s.els
def StmDoes (x : Ids) (S : Nat) (s : Stm) : Prop := ∀ (B : AHeap) (q : Mc), HS B x q → XQ S q S → Does 89 [.ptr x.m 0, sav s] B x (exS s q).rs
structure BlkI (A : AHeap) (x : Ids) (S : Nat) (l : List Stm) (r : Rx) (suf : List Stm) (i : Nat) (mi : Mc) (B : AHeap) : Prop where
 pre : ∃ pre, l = pre ++ suf ∧ pre.length = i
 hs : HS B x mi
 keep : Keep A B x
 xi : XI S mi 0
 st : mi.steps ≤ 16384
 ev : exL suf mi = r
theorem stm_row (s : Stm) : s.row = [.int .i64 s.op, .str s.name, .int .i64 s.max, .int .i64 s.a.op, .int .i64 s.a.n, .str s.a.s, .slice (s.a.args.map E.row), .int .i64 s.b.op, .int .i64 s.b.n, .str s.b.s, .slice (s.b.args.map E.row), .slice (s.body.map Stm.row), .slice (s.els.map Stm.row)] := Stm.row_eq s
theorem block_ok {A : AHeap} {x : Ids} {S : Nat} {m mF : Mc} (hS : HS A x m) (l : List Stm) (hlen : l.length ≤ 4194303) (hw : slW S l) (hx : XI S m 0) (hst : m.steps ≤ 16384) (ih : ∀ s ∈ l, StmDoes x S s) (he : exL l m = .ok mF) :
  Does 51 [.ptr x.m 0, .d (.slice (l.map Stm.row))] A x (.ok (.tuple []) mF) := by
 rw [does_ok]
 have hG : ∃ G : Option (AV × AHeap) → Prop, G = fun r => ∃ A', r = some (.tuple [], A') ∧ HS A' x mF ∧ Keep A A' x := ⟨_, rfl⟩
 obtain ⟨G, hG⟩ := hG
 suffices h : G (acl C 51 [.ptr x.m 0, .d (.slice (l.map Stm.row))] A) by rw [hG] at h; exact h
 rw [k_call (c := C) (f := 51) rfl Tryz.func51 rfl (ok 51 (by kernel_rfl)) rfl Tryz.ntmps51 Tryz.results51 (by simp)]
 simp (maxSteps := 1000000) only [go_sem, acondK_bool]
 refine loop_good (fun σ : List Stm × Nat × Mc × AHeap => [(8, .v (.d (.int .i64 (σ.2.1 : Nat)))), (0, .v (.ptr x.m 0)), (6, .v (.d (.slice (l.map Stm.row)))), (7, .v (.d (.int .i64 (l.length : Nat))))])
  (fun σ => σ.2.2.2) (fun σ => σ.1.length) (fun σ => BlkI A x S l (.ok mF) σ.1 σ.2.1 σ.2.2.1 σ.2.2.2) (l, 0, m, A) rfl rfl
  ⟨⟨[], rfl, rfl⟩, hS, Keep.refl A x, hx, hst, he⟩ ?_
 rintro ⟨suf, i, mi, B⟩ ⟨⟨pre, hp, hpl⟩, hB, hk, hxi, hsi, hev⟩ next
 simp only at hp hpl hB hk hxi hsi hev next
 cases suf with
 | nil =>
   simp only [exL, Rx.ok.injEq] at hev
   subst hev
   have e0 : decide ((i : Int) < (l.length : Nat)) = false := by rw [hp, ← hpl]; simp
   obtain ⟨k1, k2⟩ := keep_fin (f := 51) nice_t hS hB hk
   have fin : G (some (.tuple [], finH 51 A (.tuple []) B)) := by rw [hG]; exact ⟨_, rfl, k1, k2⟩
   have fr := finR (f := 51) (A := A) (B := B) nice_t
   simp (maxSteps := 1000000) only [go_sem, acondK_bool, e0, fr]
   exact fin
 | cons s suf =>
   simp only [exL] at hev
   have ht := tickP hB
   rw [← tickR_rs] at ht
   have tk := tick_ok hxi hsi
   cases hr : tickR mi with
   | stop z mz => rw [hr] at hev; simp [Rx.bind] at hev
   | ok q =>
     rw [hr] at hev ht tk
     obtain ⟨B1, a1, a2, a3⟩ := ht
     have hq := XQ.of tk.1 tk.2
     have hsm : s ∈ l := by rw [hp]; simp
     have hd := ih s hsm B1 q a2 hq
     have fn := exS_fine S s q (slW_mem hw hsm) hq
     simp only [Rx.bind] at hev
     cases hr2 : exS s q with
     | stop z mz => rw [hr2] at hev; simp at hev
     | ok m2 =>
       rw [hr2] at hev hd fn
       obtain ⟨B2, b1, b2, b3⟩ := hd
       have nx := next (suf, i + 1, m2, B2) (by simp) ⟨⟨pre ++ [s], by rw [hp]; simp, by simp [hpl]⟩, b2, hk.trans (a3.trans b3), fn.1, fn.2, hev⟩
       have hil : i < l.length := by rw [hp, ← hpl]; simp
       have e3 : (l.map Stm.row)[i]? = some s.row := by rw [hp, ← hpl]; simp
       have e4 : decide ((i : Int) < (l.length : Nat)) = true := by simp; omega
       have e5 : IntKind.i64.wrap ((i : Nat) + 1) = ((i + 1 : Nat) : Int) := by rw [wrap_in] <;> omega
       rw [stm_row] at e3
       simp only [sav, avS] at b1
       simp (maxSteps := 1000000) only [go_sem, acondK_bool, e3, e4, e5, a1, b1, nx]
theorem block_stop {A : AHeap} {x : Ids} {S : Nat} {m mF : Mc} {z : Stp} (hS : HS A x m) (l : List Stm) (hlen : l.length ≤ 4194303) (hw : slW S l) (hx : XI S m 0) (hst : m.steps ≤ 16384) (ih : ∀ s ∈ l, StmDoes x S s) (he : exL l m = .stop z mF) :
  Does 51 [.ptr x.m 0, .d (.slice (l.map Stm.row))] A x (.stop z mF) := by
 refine does_stop ?_
 have hG : ∃ G : PR, G = fun y B => y = z.av ∧ HS B x mF ∧ Keep A B x := ⟨_, rfl⟩
 obtain ⟨G, hG⟩ := hG
 suffices h : pcl C px 51 [.ptr x.m 0, .d (.slice (l.map Stm.row))] A G by rw [hG] at h; exact h
 have fin : ∀ B2 nt rs, HS B2 x mF → Keep A B2 x → (⟨⟨C, 51, nt, rs, A⟩, px, G⟩ : PF).post z.av B2 := by
  intro B2 nt rs q1 q2
  refine (post_fin (nice_s z)).2 ?_
  obtain ⟨k1, k2⟩ := keep_fin (f := 51) (nice_s z) hS q1 q2
  rw [hG]
  exact ⟨rfl, k1, k2⟩
 refine k_pan (c := C) (f := 51) rfl Tryz.func51 rfl (ok 51 (by kernel_rfl)) rfl Tryz.ntmps51 Tryz.results51 (by simp) ?_
 simp (maxSteps := 1000000) only [go_sem, acondK_bool]
 refine p_loop_meas (fun σ : List Stm × Nat × Mc × AHeap => [(8, .v (.d (.int .i64 (σ.2.1 : Nat)))), (0, .v (.ptr x.m 0)), (6, .v (.d (.slice (l.map Stm.row)))), (7, .v (.d (.int .i64 (l.length : Nat))))])
  (fun σ => σ.2.2.2) (fun σ => σ.1.length) (fun σ => BlkI A x S l (.stop z mF) σ.1 σ.2.1 σ.2.2.1 σ.2.2.2) (l, 0, m, A) ?_ rfl
  ⟨⟨[], rfl, rfl⟩, hS, Keep.refl A x, hx, hst, he⟩ ?_
 ·simp (maxSteps := 1000000) only [go_sem, acondK_bool, firstRegion]
 rintro ⟨suf, i, mi, B⟩ ⟨⟨pre, hp, hpl⟩, hB, hk, hxi, hsi, hev⟩ next
 simp only at hp hpl hB hk hxi hsi hev next
 cases suf with
 | nil => simp [exL] at hev
 | cons s suf =>
   simp only [exL] at hev
   have ht := tickP hB
   rw [← tickR_rs] at ht
   have tk := tick_ok hxi hsi
   have hil : i < l.length := by rw [hp, ← hpl]; simp
   have e3 : (l.map Stm.row)[i]? = some s.row := by rw [hp, ← hpl]; simp
   have e4 : decide ((i : Int) < (l.length : Nat)) = true := by simp; omega
   have e5 : IntKind.i64.wrap ((i : Nat) + 1) = ((i + 1 : Nat) : Int) := by rw [wrap_in] <;> omega
   rw [stm_row] at e3
   cases hr : tickR mi with
   | stop y my =>
     rw [hr] at hev ht
     simp only [Rx.bind, Rx.stop.injEq] at hev
     obtain ⟨rfl, rfl⟩ := hev
     obtain ⟨B1, a2, a3, a1⟩ := ht
     have no := pcl_no pxNo (a1 (fun _ _ => True) trivial)
     have f2 := fun nt rs => fin B1 nt rs a2 (hk.trans a3)
     simp (maxSteps := 1000000) only [go_sem, acondK_bool, e3, e4, no]
     exact a1 _ (f2 _ _)
   | ok q =>
     rw [hr] at hev ht tk
     obtain ⟨B1, a1, a2, a3⟩ := ht
     have hq := XQ.of tk.1 tk.2
     have hsm : s ∈ l := by rw [hp]; simp
     have hd := ih s hsm B1 q a2 hq
     have fn := exS_fine S s q (slW_mem hw hsm) hq
     simp only [Rx.bind] at hev
     cases hr2 : exS s q with
     | stop y my =>
       rw [hr2] at hev hd
       simp only [Rx.stop.injEq] at hev
       obtain ⟨rfl, rfl⟩ := hev
       obtain ⟨B2, b2, b3, b1⟩ := hd
       have no := pcl_no pxNo (b1 (fun _ _ => True) trivial)
       have f2 := fun nt rs => fin B2 nt rs b2 (hk.trans (a3.trans b3))
       simp only [sav, avS] at b1 no
       simp (maxSteps := 1000000) only [go_sem, acondK_bool, e3, e4, a1, no]
       exact b1 _ (f2 _ _)
     | ok m2 =>
       rw [hr2] at hev hd fn
       obtain ⟨B2, b1, b2, b3⟩ := hd
       have nx := fun env' => next (suf, i + 1, m2, B2) env' (by simp) ⟨⟨pre ++ [s], by rw [hp]; simp, by simp [hpl]⟩, b2, hk.trans (a3.trans b3), fn.1, fn.2, hev⟩
       simp only [sav, avS] at b1
       simp (maxSteps := 1000000) only [go_sem, acondK_bool, e3, e4, e5, a1, b1]
       refine nx _ ?_
       simp (maxSteps := 1000000) only [go_sem, acondK_bool, firstRegion]
theorem blkRunP {A : AHeap} {x : Ids} {S : Nat} {m : Mc} (hS : HS A x m) (l : List Stm) (hlen : l.length ≤ 4194303) (hw : slW S l) (hx : XI S m 0) (hst : m.steps ≤ 16384) (ih : ∀ s ∈ l, StmDoes x S s) :
  Does 51 [.ptr x.m 0, .d (.slice (l.map Stm.row))] A x (exL l m).rs := by
 cases he : exL l m with
 | ok mF => exact block_ok hS l hlen hw hx hst ih he
 | stop z mF => exact block_stop hS l hlen hw hx hst ih he
end Go.Proofs.YtpbdjgdmhfibmaaGreatDoor
