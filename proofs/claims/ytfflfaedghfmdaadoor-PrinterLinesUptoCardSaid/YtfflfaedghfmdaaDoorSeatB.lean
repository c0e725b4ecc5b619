/- strings.Builder's copyCheck and String, of a builder at the head of a printer.writer: what the library's text does. -/
import Derived.Lib.Builder
import Derived.Lib.UnsafeStr
import Derived.WalkKit
import Derived.Shelf.RegionOpen
import Derived.Shelf.RegionOpenPlain
import Derived.Laws.Externs
import Derived.Laws.BitsLemmas
import Derived.Shelf.Strings.OnBuilder
import Derived.Shelf.Strconv.Itoa4
import Derived.Test.YtfflfaedghfmdaaDoorSeatA
import Derived.Test.YtfflfaedghfmdaaDoorGenA
set_option linter.unusedVariables false
set_option linter.unusedSimpArgs false
set_option linter.all false
set_option linter.deprecated false
set_option linter.all false
namespace Go.Proofs.YtfflfaedghfmdaaDoor
open Go.RowKit Go.Shelf
set_option maxRecDepth 100000
theorem u59 : Tryd.prog.underlying 59 = some (.pointer 62) := by kernel_rfl
theorem u106 : Tryd.prog.underlying 106 = some .unsafePointer := by kernel_rfl
theorem size62 : (Tryd.prog.info? 62).map (·.size) = some 2 := by kernel_rfl
theorem lies62 : liesAt Tryd.prog Tryd.prog.depth 64 (3 / Tryd.prog.cellsOf 64) 0 62 1 = true := by kernel_rfl
theorem lies2 : liesAt Tryd.prog Tryd.prog.depth 62 (2 / Tryd.prog.cellsOf 62) 0 62 1 = true := by kernel_rfl
theorem liesB {T n : Nat} (h : Go.Abs.bldOk 64 62 T n = true) : liesAt Tryd.prog Tryd.prog.depth T (n / Tryd.prog.cellsOf T) 0 62 1 = true ∧ 0 < n := by
  unfold Go.Abs.bldOk at h
  rw [Bool.or_eq_true, Bool.and_eq_true, Bool.and_eq_true] at h
  rcases h with ⟨h1, h2⟩ | ⟨h1, h2⟩
  · have e1 := eq_of_beq h1
    have e2 := eq_of_beq h2
    subst e1 e2
    exact ⟨lies62, by decide⟩
  · have e1 := eq_of_beq h1
    have e2 := eq_of_beq h2
    subst e1 e2
    exact ⟨lies2, by decide⟩
set_option maxHeartbeats 1000000 in
theorem cc_used (b : Nat) (w : World) (h0 : w.cell? ⟨b, 0, none⟩ = some (.pointer (some ⟨b, 0, none⟩))) :
    Calls Tryd.prog 65 #[.pointer (some ⟨b, 0, none⟩)] w fun e w' => e = .returned (.tuple #[]) ∧ w' = w := by
  obtain ⟨j, hj, _⟩ := Option.map_eq_some_iff.1 size62
  go_enter Tryd.func65, Tryd.ntmps65
  go_wp2
  rw [Lib.run_neq_ptr_same w _ u59 hj]
  go_wp2
  go_end0
  exact ⟨rfl, rfl⟩
set_option maxHeartbeats 1000000 in
theorem cc_fresh (b : Nat) (w : World) (h0 : w.cell? ⟨b, 0, none⟩ = some (.pointer none)) (T n : Nat) (hT : Go.Abs.bldOk 64 62 T n = true) (hsh : w.shape? b = some (T, n)) (hfz : w.frozen? ⟨b, 0, none⟩ = false) :
    Calls Tryd.prog 65 #[.pointer (some ⟨b, 0, none⟩)] w fun e w' => e = .returned (.tuple #[]) ∧ w' = w.setCell ⟨b, 0, none⟩ (.pointer (some ⟨b, 0, none⟩)) := by
  obtain ⟨j, hj, hjs⟩ := Option.map_eq_some_iff.1 size62
  go_enter Tryd.func65, Tryd.ntmps65
  go_wp2
  rw [Lib.run_to_unsafe w ⟨b, 0, none⟩ u59 u106 hj (by rw [hjs]; decide) hsh (liesB hT).2]
  simp only [Result.andThen]
  rw [Oper.upon_value]
  go_wp2
  rw [run_callFunc_extern Tryd.func83 (by kernel_rfl) (by kernel_rfl) (by kernel_rfl) (e := Extern.AbiNoEscape.same) (by kernel_rfl)]
  rw [Lib.run_noEscape]
  simp only [Result.andThen]
  rw [Oper.upon_value]
  go_wp2
  rw [Lib.run_from_unsafe w ⟨b, 0, none⟩ u106 u59 hj hsh (liesB hT).1]
  simp only [Result.andThen]
  rw [Oper.upon_value]
  go_wp2
  go_end0
  exact ⟨rfl, rfl⟩
end Go.Proofs.YtfflfaedghfmdaaDoor
set_option linter.all false
namespace Go.Proofs.YtfflfaedghfmdaaDoor
open Go.Abs
set_option maxRecDepth 100000
/-- the cells of one object -/
theorem cellsOfT {W : World} {g : Gh} {A : AHeap} {T : TypeId} {blk : Nat} {c0 : AV} {cs : List AV} (h : ObjAt W g A blk (.tcells T (c0 :: cs))) :
    ∃ u0 us, W.heap[blk]? = some (.cells (u0 :: us).toArray T (0, 0)) ∧ RelV W g A c0 u0 ∧ RelL W g A cs us := by
  obtain ⟨us, hb, hl, hr⟩ := h
  obtain ⟨l⟩ := us
  match l, hl with
  | u0 :: us, hl => exact ⟨u0, us, hb, hr 0 c0 u0 rfl rfl, by simpa using hl, fun i x v h1 h2 => hr (i + 1) x v (by simpa using h1) (by simpa using h2)⟩
theorem nilTuple {W : World} {g : Gh} {A : AHeap} : RelV W g A (.tuple []) (.tuple #[]) := .tuple [] [] rfl fun i x v h => by simp at h
theorem one_arg {W : World} {g : Gh} {A : AHeap} {id off : Nat} {vs : List Value} (h : RelL W g A [.ptr id off] vs) : vs = [.pointer (some ⟨g.ob id, off, none⟩)] := by
  match vs, h with
  | [v], h =>
    have r := h.2 0 _ v rfl rfl
    cases r with
    | ptr _ _ hid => rfl
theorem cc_ok : CallOk1 Tryd.prog 65 (ccFn 64 62) := by
  intro xs A x A' hx
  unfold ccFn at hx
  split at hx
  case h_2 => cases hx
  rename_i id
  split at hx
  case h_2 => cases hx
  rename_i S c cs hobj
  split at hx
  case isFalse => cases hx
  rename_i hS
  refine ⟨⟨_, Tryd.func65, by kernel_rfl, by kernel_rfl⟩, fun W g vs hw hr => ?_⟩
  have hv := one_arg hr
  subst hv
  obtain ⟨ho, hat⟩ := hw.obj id _ hobj
  obtain ⟨u0, us, hb, r0, r1⟩ := cellsOfT hat
  have hls := r1.1
  have h0 : W.cell? ⟨g.ob id, 0, none⟩ = some u0 := by rw [Lib.cell_of_heap hb]; rfl
  split at hx
  case h_1 =>
    cases hx
    cases r0
    refine Calls.mono (cc_fresh (g.ob id) W h0 S (cs.length + 1) hS (by simp [World.shape?, hb, hls]) (Lib.frozen_of_heap hb 0)) ?_
    rintro e W' ⟨rfl, rfl⟩
    have hid : id < A.objs.length := lt_of_get hobj
    have hlt := hw.lt _ _ ho
    have hheap : ∀ blk, blk ≠ g.ob id → (W.setCell ⟨g.ob id, 0, none⟩ (.pointer (some ⟨g.ob id, 0, none⟩))).heap[blk]? = W.heap[blk]? := fun blk h => by
      have h' : ¬ g.ob id = blk := fun e => h e.symm
      simp [World.setCell, Array.getElem?_modify, h']
    obtain ⟨w1, w2⟩ := hw.setObj (W' := W.setCell ⟨g.ob id, 0, none⟩ (.pointer (some ⟨g.ob id, 0, none⟩))) (g' := g) (A' := { A with objs := A.objs.set id (.tcells S (.ptr id 0 :: cs)) }) (id := id) (o' := .tcells S (.ptr id 0 :: cs))
      rfl (fun i hi => by rw [List.getElem?_set_ne (fun e => hi e.symm)]) (by simp [hid]) (by simp) ⟨rfl, rfl⟩ (by simp [World.setCell]) (fun blk _ h2 => hheap blk h2) rfl rfl (fun _ _ => rfl) (fun _ _ => rfl) ho (by simpa [World.setCell] using hlt)
      (fun blk o h1 h2 => by have := hw.lt _ _ h2; omega) (fun ev => ⟨(.pointer (some ⟨g.ob id, 0, none⟩) :: us).toArray, by simp [World.setCell, Array.getElem?_modify, hb], by simpa using hls, fun i x v h1 h2 => by
        match i with
        | 0 => cases h1; cases h2; exact .ptr id 0 (by simpa using hid)
        | n + 1 => exact ev.relV (r1.2 n x v (by simpa using h1) (by simpa using h2))⟩)
    exact ⟨_, g, rfl, nilTuple, w1, w2⟩
  case h_2 =>
    rename_i i
    split at hx
    case isFalse => cases hx
    rename_i hi
    subst hi
    cases hx
    cases r0
    refine Calls.mono (cc_used (g.ob i) W h0) ?_
    rintro e W' ⟨rfl, rfl⟩
    exact ⟨_, g, rfl, nilTuple, hw, .refl _ _ _⟩
  case h_3 => cases hx
end Go.Proofs.YtfflfaedghfmdaaDoor
set_option linter.all false
namespace Go.Proofs.YtfflfaedghfmdaaDoor
open Go.RowKit Go.Shelf
set_option maxRecDepth 100000
theorem u94 : Tryd.prog.underlying 94 = some (.pointer 5) := by kernel_rfl
theorem cells5 : Tryd.prog.cellsOf 5 = 1 := by kernel_rfl
set_option maxHeartbeats 2000000 in
theorem bs_row (b gb cap : Nat) (l : List UInt8) (h0 : l ≠ []) (w : World) (u0 : Value) (ut : List Value) (T : TypeId) (vs : Array Value)
    (hbk : w.heap[b]? = some (.cells (u0 :: .slice (some ⟨gb, 0, none⟩) l.length cap :: ut).toArray T (0, 0))) (hg : w.heap[gb]? = some (.cells vs 5 (0, 0))) (hcap : cap ≠ 0) (hn : l.length ≤ vs.size)
    (hvs : ∀ (j : Nat) (x : UInt8), l[j]? = some x → vs[j]? = some (.int .u8 x.toNat)) (h63 : l.length ≤ 9223372036854775807) :
    Calls Tryd.prog 27 #[.pointer (some ⟨b, 0, none⟩)] w fun e w' => e = .returned (.string ⟨l.toArray⟩) ∧ w' = w.drew.freeze ⟨gb, 0, none⟩ l.length := by
  have c1 : w.drew.cell? ⟨b, 1, none⟩ = some (.slice (some ⟨gb, 0, none⟩) l.length cap) := by
    have : w.drew.heap[b]? = some (.cells (u0 :: .slice (some ⟨gb, 0, none⟩) l.length cap :: ut).toArray T (0, 0)) := hbk
    rw [Lib.cell_of_heap this]; rfl
  have hg' : w.drew.heap[gb]? = some (.cells vs 5 (0, 0)) := hg
  have hSD : (Builtin.unsafeSliceData_ #[60] 94 #[.slice (some ⟨gb, 0, none⟩) l.length cap]).run Tryd.prog w.drew = .ok (.pointer (some ⟨gb, 0, none⟩)) w.drew :=
    Lib.run_unsafeSliceData_row _ _ _ _ _ _ hcap
  have hUS : (Builtin.unsafeString_ #[94, 3] 9 #[.pointer (some ⟨gb, 0, none⟩), .int .i64 l.length]).run Tryd.prog w.drew = .ok (.string ⟨l.toArray⟩) (w.drew.freeze ⟨gb, 0, none⟩ l.length) := by
    refine Lib.run_unsafeString_row w.drew 94 3 9 5 u94 cells5 gb vs.size (by simp [World.shape?, hg']) l h0 hn h63 ?_
    intro j x hx
    rw [Abs.addr_add, Nat.zero_add, Lib.cell_of_heap hg']
    exact hvs j x hx
  have mixed' : Tryd.prog.follows .mixedOrders = true := mixed
  go_enter Tryd.func27, Tryd.ntmps27
  go_wp2
  go_region_o
  all_goals (go_wp2; go_ret; exact ⟨rfl, rfl⟩)
set_option maxHeartbeats 2000000 in
theorem bs_nil (b : Nat) (w : World) (u0 : Value) (ut : List Value) (T : TypeId) (hbk : w.heap[b]? = some (.cells (u0 :: .slice none 0 0 :: ut).toArray T (0, 0))) :
    Calls Tryd.prog 27 #[.pointer (some ⟨b, 0, none⟩)] w fun e w' => e = .returned (.string ⟨#[]⟩) ∧ w' = w.drew := by
  have c1 : w.drew.cell? ⟨b, 1, none⟩ = some (.slice none 0 0) := by
    have : w.drew.heap[b]? = some (.cells (u0 :: .slice none 0 0 :: ut).toArray T (0, 0)) := hbk
    rw [Lib.cell_of_heap this]; rfl
  have hSD : (Builtin.unsafeSliceData_ #[60] 94 #[.slice none 0 0]).run Tryd.prog w.drew = .ok (.pointer none) w.drew := Lib.run_unsafeSliceData_nil _ _ _ _ _
  have hUS : (Builtin.unsafeString_ #[94, 3] 9 #[.pointer none, .int .i64 0]).run Tryd.prog w.drew = .ok (.string .empty) w.drew := Lib.run_unsafeString_none w.drew _ _ _ _
  have mixed' : Tryd.prog.follows .mixedOrders = true := mixed
  go_enter Tryd.func27, Tryd.ntmps27
  go_wp2
  go_region_o
  all_goals (go_wp2; go_ret; exact ⟨rfl, rfl⟩)
end Go.Proofs.YtfflfaedghfmdaaDoor
set_option linter.all false
namespace Go.Proofs.YtfflfaedghfmdaaDoor
open Go.Abs
set_option maxRecDepth 100000
theorem rowBytes_len : ∀ {rows : List (List Dat)} {s : List UInt8}, rowBytes rows = some s → s.length = rows.length
  | [], s, h => by cases h; rfl
  | [.int .u8 n] :: l, s, h => by
    rw [rowBytes] at h
    split at h
    · rw [Option.map_eq_some_iff] at h
      obtain ⟨s', h1, rfl⟩ := h
      rw [List.length_cons, List.length_cons, rowBytes_len h1]
    · cases h
theorem rowBytes_get : ∀ {rows : List (List Dat)} {s : List UInt8}, rowBytes rows = some s → ∀ (j : Nat) (x : UInt8), s[j]? = some x → rows[j]? = some [.int .u8 x.toNat]
  | [], s, h, j, x, hj => by cases h; simp at hj
  | [.int .u8 n] :: l, s, h, j, x, hj => by
    rw [rowBytes] at h
    split at h
    · rename_i hn
      rw [Option.map_eq_some_iff] at h
      obtain ⟨s', h1, rfl⟩ := h
      cases j with
      | zero =>
        simp at hj
        subst hj
        have : ((n.toNat.toUInt8.toNat : Nat) : Int) = n := by
          rw [Nat.toUInt8, UInt8.toNat_ofNat']
          omega
        rw [List.getElem?_cons_zero, this]
      | succ j =>
        have := rowBytes_get h1 j x (by simpa using hj)
        simpa using this
    · cases h
theorem kill_get (A : AHeap) (tok t : Nat) : (A.kill tok).bufs[t]? = if t = tok then (A.bufs[t]?).map (fun b => { b with frozen := b.rows.length + 1 }) else A.bufs[t]? := by
  unfold AHeap.kill
  simp only [List.getElem?_modify]
  by_cases h : t = tok
  · subst h; simp
  · have h' : ¬ tok = t := fun e => h e.symm
    simp [h, h']
theorem froze {W : World} {blk n : Nat} {T : TypeId} {us : Array Value} (h : W.heap[blk]? = some (.cells us T (0, 0))) (hn : ¬ n = 0) :
    (∀ k, k ≠ blk → (W.drew.freeze ⟨blk, 0, none⟩ n).heap[k]? = W.heap[k]?) ∧ (∀ k, (W.drew.freeze ⟨blk, 0, none⟩ n).cell? ⟨blk, k, none⟩ = W.cell? ⟨blk, k, none⟩) ∧
      (W.drew.freeze ⟨blk, 0, none⟩ n).heap.size = W.heap.size ∧ Go.Abs.Rest W (W.drew.freeze ⟨blk, 0, none⟩ n) := by
  unfold World.freeze
  rw [if_neg hn]
  refine ⟨fun k hk => ?_, fun k => ?_, Array.size_modify .., ⟨rfl, rfl⟩⟩
  · have h' : ¬ blk = k := fun e => hk e.symm
    rw [Array.getElem?_modify, if_neg h']
    rfl
  · unfold World.cell?
    simp only [Array.getElem?_modify, if_true]
    have h2 : W.drew.heap[blk]? = some (.cells us T (0, 0)) := h
    rw [h2, h]
    rfl
/-- a buffer dies: its block may change -/
theorem killed {W W' : World} {g : Gh} {A : AHeap} (hw : WRel W g A) {tok : Nat} {b : ABuf} (hb : A.bufs[tok]? = some b) (hfr : b.frozen ≤ b.rows.length) {blk : Nat} (hown : g.own blk = some (.buf tok))
    (hheap : ∀ k, k ≠ blk → W'.heap[k]? = W.heap[k]?) (hcell : ∀ k, W'.cell? ⟨blk, k, none⟩ = W.cell? ⟨blk, k, none⟩) (hsize : W'.heap.size = W.heap.size) (hrest : Go.Abs.Rest W W') :
    WRel W' g (A.kill tok) ∧ Ev W g A W' g (A.kill tok) := by
  have hbf := (hw.buf tok b hb).bf
  have hev : EvV W g A W' g (A.kill tok) := by
    refine ⟨Nat.le_of_eq hsize.symm, fun c o hs => ⟨hs, ?_⟩, fun _ _ => rfl, Nat.le_refl _, fun t c hc => ?_, hrest⟩
    · by_cases h : c = blk
      · subst h; exact hcell o
      · exact cell_same (hheap c h)
    · rw [kill_get]
      by_cases ht : t = tok
      · rw [if_pos ht, hc]
        exact ⟨_, rfl, rfl, Nat.le_refl _, fun _ => rfl⟩
      · rw [if_neg ht]
        exact ⟨c, hc, rfl, Nat.le_refl _, fun _ => rfl⟩
  refine ⟨⟨fun id o ho => ?_, fun t c hc => ?_, fun c o h => by rw [hsize]; exact hw.lt c o h, fun c o h => by rw [hsize]; exact hw.stab c o h, hw.sobj⟩, ⟨hev, fun c hc ho => ⟨hheap c fun e => (by rw [e, hown] at ho; cases ho), ho, fun _ x => x⟩⟩⟩
  · obtain ⟨k1, k2⟩ := hw.obj id o ho
    exact ⟨k1, k2.ev hev (hheap _ fun e => (by rw [e, hown] at k1; cases k1))⟩
  · rw [kill_get] at hc
    by_cases ht : t = tok
    · subst ht
      rw [if_pos rfl, hb] at hc
      cases hc
      obtain ⟨blk', cap', e1, e2⟩ := hbf
      exact ⟨.inr ⟨Nat.lt_succ_self _, blk', cap', e1, e2⟩⟩
    · rw [if_neg ht] at hc
      exact (hw.buf t c hc).keep rfl (fun _ x => x) (fun d hd => hheap d fun e => (by rw [e, hown] at hd; cases hd; exact ht rfl)) (fun _ _ _ x => x) (fun _ _ r => hev.relD r)
theorem bs_ok : CallOk1 Tryd.prog 27 (bsFn 64 62 5) := by
  intro xs A x A' hx
  unfold bsFn at hx
  split at hx
  case h_2 => cases hx
  rename_i id
  split at hx
  case h_2 => cases hx
  rename_i S c0 c cs hobj
  split at hx
  case isFalse => cases hx
  rename_i hS
  refine ⟨⟨_, Tryd.func27, by kernel_rfl, by kernel_rfl⟩, fun W g vs hw hr => ?_⟩
  have hv := one_arg hr
  subst hv
  obtain ⟨ho, hat⟩ := hw.obj id _ hobj
  obtain ⟨u0, us0, hb, r0, rl⟩ := cellsOfT hat
  obtain ⟨u1, us, rfl, r1, r2⟩ : ∃ u1 us, us0 = u1 :: us ∧ RelV W g A c u1 ∧ RelL W g A cs us := by
    obtain ⟨k1, k2⟩ := rl
    match us0, k1 with
    | u1 :: us, k1 => exact ⟨u1, us, rfl, k2 0 c u1 rfl rfl, by simpa using k1, fun i x v h1 h2 => k2 (i + 1) x v (by simpa using h1) (by simpa using h2)⟩
  split at hx
  case h_1 =>
    cases hx
    cases r1
    refine Calls.mono (bs_nil (g.ob id) W u0 us S hb) ?_
    rintro e W' ⟨rfl, rfl⟩
    exact ⟨_, g, rfl, .d _ _ (.str ⟨#[]⟩), hw.same rfl ⟨rfl, rfl⟩, Ev.same rfl ⟨rfl, rfl⟩⟩
  case h_2 =>
    rename_i tok len
    split at hx
    case h_2 => cases hx
    rename_i rows hrows
    split at hx
    case h_2 => cases hx
    rename_i s hs
    split at hx
    case isTrue => cases hx
    rename_i hcond
    cases hx
    obtain ⟨b, hbt, hl, rfl, hfr⟩ := arows_own hrows
    have hne : s ≠ [] := fun h => hcond (.inl h)
    have hbe : b.e = 5 := by
      apply Classical.byContradiction
      intro h
      refine hcond (.inr ?_)
      rw [hbt]
      intro h2
      exact h (by simpa using h2)
    obtain ⟨blk, cap, rfl, hbf⟩ := own_bf hw r1 hbt hl
    obtain ⟨blk', cap', us', e1, e2, e3, e4, e5, e6, e7, e8, e9, e10⟩ := (hw.buf tok b hbt).ex hfr
    rw [hbf] at e1
    cases e1
    have hsl := rowBytes_len hs
    have hpos : 0 < s.length := by cases s with | nil => exact absurd rfl hne | cons _ _ => simp
    have hrow0 : ∃ r, b.rows[0]? = some [r] := by
      have := rowBytes_get hs 0 (s[0]'hpos) (by simp)
      exact ⟨_, this⟩
    have hsz : b.sz = 1 := by
      obtain ⟨r, hr0⟩ := hrow0
      have := e8 0 _ hr0
      simpa using this.symm
    rw [hsz, Nat.mul_one] at e4
    rw [hbe] at e3
    refine Calls.mono (bs_row (g.ob id) blk cap s hne W u0 us S us' (by rw [hsl]; exact hb) e3 (by omega) (by omega) (fun j y hj => ?_) (by unfold maxLen at e6; omega)) ?_
    · have h1 := rowBytes_get hs j y hj
      obtain ⟨v, hv, hrv⟩ := e9 j 0 _ _ h1 rfl
      rw [hsz, Nat.mul_one, Nat.add_zero] at hv
      cases hrv
      exact hv
    · rintro e W' ⟨rfl, rfl⟩
      obtain ⟨f1, f2, f3, f4⟩ := froze e3 (n := s.length) (by omega)
      obtain ⟨k1, k2⟩ := killed hw hbt hfr e2 f1 f2 f3 f4
      exact ⟨_, g, rfl, .d _ _ (.str ⟨s.toArray⟩), k1, k2⟩
  case h_3 => cases hx
end Go.Proofs.YtfflfaedghfmdaaDoor
set_option linter.all false
namespace Go.Proofs.YtfflfaedghfmdaaDoor
open Go.RowKit Go.Shelf
def rho : Ren := ⟨fun n => bif Nat.beq n 0 then 0 else bif Nat.beq n 1 then 1 else bif Nat.beq n 2 then 2 else bif Nat.beq n 129 then 97 else bif Nat.beq n 156 then 25 else bif Nat.beq n 165 then 45 else bif Nat.beq n 166 then 43 else bif Nat.beq n 167 then 44 else bif Nat.beq n 169 then 27 else bif Nat.beq n 173 then 77 else bif Nat.beq n 240 then 65 else bif Nat.beq n 241 then 66 else bif Nat.beq n 246 then 85 else bif Nat.beq n 276 then 83 else bif Nat.beq n 277 then 84 else bif Nat.beq n 283 then 89 else bif Nat.beq n 284 then 90 else bif Nat.beq n 285 then 91 else bif Nat.beq n 286 then 92 else bif Nat.beq n 317 then 96 else bif Nat.beq n 318 then 98 else bif Nat.beq n 319 then 99 else bif Nat.beq n 320 then 100 else bif Nat.beq n 337 then 104 else bif Nat.beq n 338 then 105 else bif Nat.beq n 347 then 107 else bif Nat.beq n 348 then 108 else bif Nat.beq n 349 then 109 else bif Nat.beq n 350 then 110 else bif Nat.beq n 351 then 111 else bif Nat.beq n 352 then 112 else bif Nat.beq n 353 then 113 else bif Nat.beq n 354 then 114 else bif Nat.beq n 355 then 115 else bif Nat.beq n 356 then 116 else bif Nat.beq n 357 then 117 else bif Nat.beq n 358 then 118 else bif Nat.beq n 359 then 119 else bif Nat.beq n 360 then 120 else bif Nat.beq n 361 then 121 else bif Nat.beq n 362 then 122 else bif Nat.beq n 366 then 123 else bif Nat.beq n 367 then 129 else 0, fun n => bif Nat.beq n 0 then 0 else bif Nat.beq n 1 then 1 else bif Nat.beq n 2 then 2 else bif Nat.beq n 3 then 3 else bif Nat.beq n 4 then 4 else bif Nat.beq n 5 then 5 else bif Nat.beq n 6 then 6 else bif Nat.beq n 7 then 7 else bif Nat.beq n 8 then 8 else bif Nat.beq n 9 then 9 else bif Nat.beq n 10 then 10 else bif Nat.beq n 11 then 11 else bif Nat.beq n 12 then 12 else bif Nat.beq n 13 then 13 else bif Nat.beq n 14 then 14 else bif Nat.beq n 15 then 15 else bif Nat.beq n 16 then 16 else bif Nat.beq n 17 then 17 else bif Nat.beq n 18 then 18 else bif Nat.beq n 19 then 19 else bif Nat.beq n 20 then 20 else bif Nat.beq n 21 then 21 else bif Nat.beq n 28 then 43 else bif Nat.beq n 31 then 44 else bif Nat.beq n 33 then 123 else bif Nat.beq n 37 then 60 else bif Nat.beq n 40 then 73 else bif Nat.beq n 41 then 114 else bif Nat.beq n 46 then 121 else bif Nat.beq n 47 then 122 else bif Nat.beq n 51 then 118 else bif Nat.beq n 52 then 125 else bif Nat.beq n 53 then 104 else bif Nat.beq n 54 then 110 else bif Nat.beq n 67 then 66 else bif Nat.beq n 70 then 59 else bif Nat.beq n 71 then 61 else bif Nat.beq n 72 then 62 else bif Nat.beq n 73 then 91 else bif Nat.beq n 74 then 86 else bif Nat.beq n 75 then 87 else bif Nat.beq n 76 then 88 else bif Nat.beq n 77 then 89 else bif Nat.beq n 78 then 90 else bif Nat.beq n 80 then 68 else bif Nat.beq n 81 then 133 else bif Nat.beq n 83 then 57 else bif Nat.beq n 84 then 103 else bif Nat.beq n 103 then 74 else bif Nat.beq n 104 then 49 else bif Nat.beq n 111 then 120 else bif Nat.beq n 114 then 96 else bif Nat.beq n 127 then 94 else bif Nat.beq n 164 then 106 else bif Nat.beq n 165 then 107 else bif Nat.beq n 166 then 108 else bif Nat.beq n 171 then 109 else bif Nat.beq n 172 then 111 else bif Nat.beq n 173 then 112 else bif Nat.beq n 174 then 113 else bif Nat.beq n 211 then 116 else bif Nat.beq n 212 then 117 else bif Nat.beq n 213 then 119 else bif Nat.beq n 232 then 126 else bif Nat.beq n 233 then 127 else bif Nat.beq n 238 then 128 else bif Nat.beq n 239 then 129 else bif Nat.beq n 240 then 130 else bif Nat.beq n 241 then 131 else bif Nat.beq n 242 then 132 else bif Nat.beq n 243 then 134 else bif Nat.beq n 244 then 135 else bif Nat.beq n 245 then 136 else bif Nat.beq n 246 then 137 else bif Nat.beq n 247 then 138 else bif Nat.beq n 248 then 139 else bif Nat.beq n 249 then 140 else 0, fun n => bif Nat.beq n 17 then 1 else bif Nat.beq n 18 then 2 else bif Nat.beq n 19 then 3 else 0⟩
theorem mixedP : Tryd.prog.follows .mixedOrders = true := mixed
set_option maxRecDepth 100000 in
theorem lay_Lays_n156 : Lays.n156 Tryd.prog rho where
  mixed := mixedP
  f156 := by kernel_rfl
  f165 := by kernel_rfl
  f166 := by kernel_rfl
  f169 := by kernel_rfl
  f240 := by kernel_rfl
  f241 := by kernel_rfl
  f276 := by kernel_rfl
  f277 := by kernel_rfl
  t0 := by kernel_rfl
  a0 := fun _ => by kernel_rfl
  z0 := fun _ => by kernel_rfl
  v0 := fun _ => by kernel_rfl
  t3 := by kernel_rfl
  a3 := fun _ => by kernel_rfl
  z3 := fun _ => by kernel_rfl
  v3 := fun _ => by kernel_rfl
  t4 := by kernel_rfl
  a4 := fun _ => by kernel_rfl
  z4 := fun _ => by kernel_rfl
  v4 := fun _ => by kernel_rfl
  t9 := by kernel_rfl
  a9 := fun _ => by kernel_rfl
  z9 := fun _ => by kernel_rfl
  v9 := fun _ => by kernel_rfl
  t20 := by kernel_rfl
  a20 := fun _ => by kernel_rfl
  z20 := fun _ => by kernel_rfl
  v20 := fun _ => by kernel_rfl
  t31 := by kernel_rfl
  a31 := fun _ => by kernel_rfl
  z31 := fun _ => by kernel_rfl
  v31 := fun _ => by kernel_rfl
  t37 := by kernel_rfl
  a37 := fun _ => by kernel_rfl
  z37 := fun _ => by kernel_rfl
  v37 := fun _ => by kernel_rfl
  t70 := by kernel_rfl
  a70 := fun _ => by kernel_rfl
  z70 := fun _ => by kernel_rfl
  v70 := fun _ => by kernel_rfl
  t72 := by kernel_rfl
  a72 := fun _ => by kernel_rfl
  z72 := fun _ => by kernel_rfl
  v72 := fun _ => by kernel_rfl
  t75 := by kernel_rfl
  a75 := fun _ => by kernel_rfl
  z75 := fun _ => by kernel_rfl
  v75 := fun _ => by kernel_rfl
  t76 := by kernel_rfl
  a76 := fun _ => by kernel_rfl
  z76 := fun _ => by kernel_rfl
  v76 := fun _ => by kernel_rfl
  t127 := by kernel_rfl
  a127 := fun _ => by kernel_rfl
  z127 := fun _ => by kernel_rfl
  v127 := fun _ => by kernel_rfl
  t164 := by kernel_rfl
  a164 := fun _ => by kernel_rfl
  z164 := fun _ => by kernel_rfl
  v164 := fun _ => by kernel_rfl
set_option maxRecDepth 100000 in
theorem lay_Builder_Extra : Builder.Extra Tryd.prog rho where
  sizeBuilder := by kernel_rfl
  liesBuilder := by kernel_rfl
  t5 := by kernel_rfl
  a5 := fun _ => by kernel_rfl
  z5 := fun _ => by kernel_rfl
  v5 := fun _ => by kernel_rfl
  infoByte := by kernel_rfl
  cellsByte := by kernel_rfl
  sizeByte := by kernel_rfl
  neB5 := by decide
set_option maxRecDepth 100000 in
theorem lay_LaysM_n173 : LaysM.n173 Tryd.prog rho where
  mixed := mixedP
  f129 := by kernel_rfl
  f173 := by kernel_rfl
  f246 := by kernel_rfl
  f283 := by kernel_rfl
  f284 := by kernel_rfl
  f285 := by kernel_rfl
  f286 := by kernel_rfl
  f317 := by kernel_rfl
  f318 := by kernel_rfl
  f319 := by kernel_rfl
  f320 := by kernel_rfl
  f337 := by kernel_rfl
  f338 := by kernel_rfl
  t0 := by kernel_rfl
  a0 := fun _ => by kernel_rfl
  z0 := fun _ => by kernel_rfl
  v0 := fun _ => by kernel_rfl
  t2 := by kernel_rfl
  a2 := fun _ => by kernel_rfl
  z2 := fun _ => by kernel_rfl
  v2 := fun _ => by kernel_rfl
  t3 := by kernel_rfl
  a3 := fun _ => by kernel_rfl
  z3 := fun _ => by kernel_rfl
  v3 := fun _ => by kernel_rfl
  t4 := by kernel_rfl
  a4 := fun _ => by kernel_rfl
  z4 := fun _ => by kernel_rfl
  v4 := fun _ => by kernel_rfl
  t5 := by kernel_rfl
  a5 := fun _ => by kernel_rfl
  z5 := fun _ => by kernel_rfl
  v5 := fun _ => by kernel_rfl
  t9 := by kernel_rfl
  a9 := fun _ => by kernel_rfl
  z9 := fun _ => by kernel_rfl
  v9 := fun _ => by kernel_rfl
  t20 := by kernel_rfl
  a20 := fun _ => by kernel_rfl
  z20 := fun _ => by kernel_rfl
  v20 := fun _ => by kernel_rfl
  t37 := by kernel_rfl
  a37 := fun _ => by kernel_rfl
  z37 := fun _ => by kernel_rfl
  v37 := fun _ => by kernel_rfl
  t46 := by kernel_rfl
  a46 := fun _ => by kernel_rfl
  z46 := fun _ => by kernel_rfl
  v46 := fun _ => by kernel_rfl
  t51 := by kernel_rfl
  a51 := fun _ => by kernel_rfl
  z51 := fun _ => by kernel_rfl
  v51 := fun _ => by kernel_rfl
  t53 := by kernel_rfl
  a53 := fun _ => by kernel_rfl
  z53 := fun _ => by kernel_rfl
  v53 := fun _ => by kernel_rfl
  t171 := by kernel_rfl
  a171 := fun _ => by kernel_rfl
  z171 := fun _ => by kernel_rfl
  v171 := fun _ => by kernel_rfl
  t173 := by kernel_rfl
  a173 := fun _ => by kernel_rfl
  z173 := fun _ => by kernel_rfl
  v173 := fun _ => by kernel_rfl
  t212 := by kernel_rfl
  a212 := fun _ => by kernel_rfl
  z212 := fun _ => by kernel_rfl
  v212 := fun _ => by kernel_rfl
  t213 := by kernel_rfl
  a213 := fun _ => by kernel_rfl
  z213 := fun _ => by kernel_rfl
  t232 := by kernel_rfl
  a232 := fun _ => by kernel_rfl
  z232 := fun _ => by kernel_rfl
  v232 := fun _ => by kernel_rfl
  t233 := by kernel_rfl
  a233 := fun _ => by kernel_rfl
  z233 := fun _ => by kernel_rfl
  v233 := fun _ => by kernel_rfl
  g17 := by kernel_rfl
  g18 := by kernel_rfl
  g19 := by kernel_rfl
  i0 := by kernel_rfl
  i2 := by kernel_rfl
  i3 := by kernel_rfl
  i4 := by kernel_rfl
  i5 := by kernel_rfl
  i9 := by kernel_rfl
  i20 := by kernel_rfl
  i37 := by kernel_rfl
  i46 := by kernel_rfl
  i51 := by kernel_rfl
  i53 := by kernel_rfl
  i171 := by kernel_rfl
  i173 := by kernel_rfl
  i212 := by kernel_rfl
  i232 := by kernel_rfl
  i233 := by kernel_rfl
  m17 := by kernel_rfl
  m18 := by kernel_rfl
  m19 := by kernel_rfl
end Go.Proofs.YtfflfaedghfmdaaDoor
set_option linter.all false
namespace Go.Proofs.YtfflfaedghfmdaaDoor
open Go.Abs Go.RowKit Go.Shelf
set_option maxRecDepth 100000
theorem joinB_eq (sep : List UInt8) : ∀ l, joinB sep l = Lib.join l sep
  | [] => rfl
  | [x] => by rw [Lib.join_one]; rfl
  | x :: y :: l => by
    rw [Lib.join_cons, joinB, joinB_eq sep (y :: l), Lib.join_cons]
    · simp [Lib.joinTail, List.append_assoc]
    · simp
theorem rowStrs_inv : ∀ {rows : List (List Dat)} {l : List (List UInt8)}, rowStrs rows = some l → rows = l.map fun s => [Dat.str s]
  | [], l, h => by cases h; rfl
  | [.str s] :: rs, l, h => by
    rw [rowStrs, Option.map_eq_some_iff] at h
    obtain ⟨l', h1, rfl⟩ := h
    rw [List.map_cons, ← rowStrs_inv h1]
theorem rowStrs_map : ∀ l : List (List UInt8), rowStrs (l.map fun s => [Dat.str s]) = some l
  | [] => rfl
  | s :: l => by rw [List.map_cons, rowStrs, rowStrs_map l]; rfl
theorem below_ev {W W' : World} {g : Gh} {A : AHeap} (hw : WRel W g A) (hb : Below W.heap.size W W') : WRel W' g A ∧ Ev W g A W' g A :=
  ⟨hw.grown hb.size (fun b h => hb.block b h) ⟨hb.os, hb.output⟩, Ev.grown hw hb.size (fun b h => hb.block b h) ⟨hb.os, hb.output⟩⟩
theorem two_args {W : World} {g : Gh} {A : AHeap} {x y : AV} {vs : List Value} (h : RelL W g A [x, y] vs) : ∃ v u, vs = [v, u] ∧ RelV W g A x v ∧ RelV W g A y u := by
  obtain ⟨h1, h2⟩ := h
  match vs, h1 with
  | [v, u], _ => exact ⟨v, u, rfl, h2 0 x v rfl rfl, h2 1 y u rfl rfl⟩
  | [], h => simp at h
  | [_], h => simp at h
  | _ :: _ :: _ :: _, h => simp at h
theorem mapData (l : List (List UInt8)) : (l.map fun s => (⟨s.toArray⟩ : ByteArray)).map (·.data.toList) = l := by
  rw [List.map_map]
  exact List.map_id'' (fun _ => rfl) l
theorem join_ok : CallOk1 Tryd.prog 25 joinFn := by
  intro xs A x A' hx
  unfold joinFn at hx
  split at hx
  case h_2 => cases hx
  rename_i rows sep hcl
  split at hx
  case h_2 => cases hx
  rename_i l hl
  split at hx
  case isFalse => cases hx
  rename_i hlim
  cases hx
  refine ⟨⟨_, Tryd.func25, by kernel_rfl, by kernel_rfl⟩, fun W g vs hw hr => ?_⟩
  obtain ⟨g1, r1, w1, e1⟩ := acleanVs_rel hw hr
  rw [hcl] at r1
  obtain ⟨v, u, rfl, hv, hu⟩ := two_args r1
  have hrows := rowStrs_inv hl
  subst hrows
  cases hv with
  | d _ _ hd =>
  cases hu with
  | d _ _ hs =>
  cases hs with
  | str sepB =>
  rw [joinB_eq] at hlim ⊢
  generalize hL : (l.map fun s => [Dat.str s]) = rs at hd
  cases hd with
  | empty a cap =>
    have : l = [] := by cases l with | nil => rfl | cons _ _ => simp at hL
    subst this
    refine Calls.mono (Any.strings_Join_none lay_Lays_n156 lay_Builder_Extra a cap sepB W) ?_
    rintro e W' ⟨rfl, rfl⟩
    exact ⟨_, g1, rfl, .d _ _ (.str ⟨#[]⟩), w1, e1⟩
  | slice _ b o cap sz val hcap hlen hcell hval =>
    subst hL
    cases l with
    | nil =>
      refine Calls.mono (Any.strings_Join_none lay_Lays_n156 lay_Builder_Extra _ cap sepB W) ?_
      rintro e W' ⟨rfl, rfl⟩
      exact ⟨_, g1, rfl, .d _ _ (.str ⟨#[]⟩), w1, e1⟩
    | cons s0 l =>
      have hsz : sz = 1 := by
        have := hlen 0 [.str s0] rfl
        simpa using this.symm
      subst hsz
      have hc := hcell 0 0 _ _ rfl rfl
      have hb : b < W.heap.size := w1.stab b _ hc.1
      have key : ∀ (j : Nat) (x : ByteArray), ((s0 :: l).map fun s => (⟨s.toArray⟩ : ByteArray))[j]? = some x → W.cell? ⟨b, o + j, none⟩ = some (.string x) := by
        intro j x hj
        rw [List.getElem?_map, Option.map_eq_some_iff] at hj
        obtain ⟨s, hs, rfl⟩ := hj
        have hrow : ((s0 :: l).map fun s => [Dat.str s])[j]? = some [.str s] := by rw [List.getElem?_map, hs]; rfl
        obtain ⟨h1, h2⟩ := hcell j 0 _ _ hrow rfl
        have h3 := hval j 0 _ _ hrow rfl
        rw [Nat.mul_one, Nat.add_zero] at h2
        rw [h2]
        generalize hq : Dat.str s = d at h3
        generalize val j 0 = w at h3
        cases h3 with
        | str q => cases hq; rfl
        | _ => cases hq
      have := Any.strings_Join lay_Lays_n156 lay_Builder_Extra b o cap ((s0 :: l).map fun s => (⟨s.toArray⟩ : ByteArray)) sepB W key hb (by rw [List.length_map]; exact hlim.1) (by rw [List.length_map]; rw [List.length_map] at hcap; exact hcap) (by rw [mapData]; exact hlim.2)
      rw [mapData, List.length_map] at this
      rw [List.length_map]
      refine Calls.mono this ?_
      rintro e W' ⟨rfl, hbw⟩
      obtain ⟨w2, e2⟩ := below_ev w1 hbw
      exact ⟨_, g1, rfl, .d _ _ (.str ⟨(Lib.join (s0 :: l) sepB.data.toList).toArray⟩), w2, e1.trans e2⟩
/-- the table of the powers of ten -/
def tabCs : Array Value := (Lib.pow10Tab.map fun z => Value.int .u64 z).toArray
theorem fmt_ok : CallOk1I Tryd.prog (VarI Tryd.prog "internal/strconv.uint64pow10" tabCs) 77 (fmtFn Lib.itoa) := by
  intro xs A x A' hx
  unfold fmtFn at hx
  split at hx
  case h_2 => cases hx
  rename_i n b hcl
  split at hx
  case isFalse => cases hx
  rename_i hn
  obtain ⟨rfl, hn0, hn1⟩ := hn
  cases hx
  refine ⟨⟨_, Tryd.func77, by kernel_rfl, by kernel_rfl⟩, fun W g vs hi hw hr => ?_⟩
  obtain ⟨g1, r1, w1, e1⟩ := acleanVs_rel hw hr
  rw [hcl] at r1
  obtain ⟨v, u, rfl, hv, hu⟩ := two_args r1
  cases hv with
  | d _ _ hd =>
  cases hu with
  | d _ _ hs =>
  cases hd
  cases hs
  refine Calls.mono (Any.strconv_FormatInt_10 lay_LaysM_n173 n hn0 hn1 W hi.1) ?_
  rintro e W' ⟨rfl, k, os, hW⟩
  have hh : ∀ b, b < W.heap.size → W'.heap[b]? = W.heap[b]? := fun b h => by rw [hW]; exact Array.getElem?_append_left h
  have hs : W.heap.size ≤ W'.heap.size := by
    rw [hW]
    show W.heap.size ≤ (W.heap ++ os).size
    rw [Array.size_append]
    exact Nat.le_add_right _ _
  have hrest : Go.Abs.Rest W W' := by rw [hW]; exact ⟨rfl, rfl⟩
  exact ⟨_, g1, rfl, .d _ _ (.str ⟨(Lib.itoa n).toArray⟩), w1.grown hs hh hrest, e1.trans (Ev.grown w1 hs hh hrest)⟩
theorem ext0_ok : ∀ f h, ext0 f = some h → CallOk1 Tryd.prog f h := by
  intro f h hf
  unfold ext0 at hf
  cases h1 : Nat.beq f 65 with
  | true =>
    rw [h1] at hf
    cases hf
    have : f = 65 := Nat.eq_of_beq_eq_true h1
    subst this
    exact cc_ok
  | false =>
  cases h2 : Nat.beq f 27 with
  | true =>
    rw [h1, h2] at hf
    cases hf
    have : f = 27 := Nat.eq_of_beq_eq_true h2
    subst this
    exact bs_ok
  | false =>
  cases h3 : Nat.beq f 25 with
  | true =>
    rw [h1, h2, h3] at hf
    cases hf
    have : f = 25 := Nat.eq_of_beq_eq_true h3
    subst this
    exact join_ok
  | false => rw [h1, h2, h3] at hf; cases hf
theorem extOkI : ∀ f h, C.ext f = some h → CallOk1I C.P (VarI Tryd.prog "internal/strconv.uint64pow10" tabCs) f h := by
  intro f h hf
  have key : C.ext f = bif Nat.beq f 13 then some (closedFn true) else ext9 f := rfl
  rw [key] at hf
  cases h1 : Nat.beq f 13 with
  | true =>
    rw [h1] at hf
    cases hf
    have : f = 13 := Nat.eq_of_beq_eq_true h1
    subst this
    exact (closed_ext (c := C0) mixed ext0_ok works0).I
  | false =>
  rw [h1] at hf
  unfold ext9 at hf
  cases h2 : Nat.beq f 77 with
  | true =>
    have hf' : some (fmtFn Lib.itoa) = some h := by rw [← hf]; simp [h2]
    cases hf'
    have : f = 77 := Nat.eq_of_beq_eq_true h2
    subst this
    exact fmt_ok
  | false => exact (ext0_ok f h (by rw [← hf]; simp [h2])).I
/-- a law's answer -/
theorem call_at {f : FuncId} {xs : List AV} {b : Bool} {A' : AHeap} (h : acl C f xs A00 = some (.d (.bool b), A')) {W : World} {vs : List Value} (hi : Lib.TabIs Tryd.prog W "internal/strconv.uint64pow10" .u64 Lib.pow10Tab) (hr : RelL W (gh0 W) A00 xs vs) :
    Calls Tryd.prog f vs.toArray W fun e W' => e = .returned (.bool b) ∧ Go.Abs.Grown W W' ∧ Go.Abs.Stands W W' :=
  call_lawI (varI_closed _ _ _) mixed extOkI h (varI_top hi) hr
end Go.Proofs.YtfflfaedghfmdaaDoor
