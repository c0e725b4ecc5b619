/- The world's changes: objects, buffers, a frame's own boxes. -/
import Derived.Test.YtfoibmfocmjmdaaAbsHeap
set_option linter.unusedVariables false
set_option linter.unusedSimpArgs false
set_option linter.all false
set_option linter.deprecated false
namespace Go.Abs

section
variable {P : Program} {W W' W0 : World} {g g' g0 : Gh} {A A' A0 : AHeap}

theorem cell_same {b k : Nat} (h : W'.heap[b]? = W.heap[b]?) : W'.cell? ⟨b, k, none⟩ = W.cell? ⟨b, k, none⟩ := by simp [World.cell?, h]

/-- a box of the frame's own is written -/
structure Local (W W' : World) (b0 : Nat) : Prop where
  size : W'.heap.size = W.heap.size
  heap : ∀ b, b ≠ b0 → W'.heap[b]? = W.heap[b]?
  rest : Rest W W'

theorem EvV.loc {b0 : Nat} (h : Local W W' b0) (hs : ∀ o, ¬ g.S b0 o) : EvV W g A W' g A where
  size := Nat.le_of_eq h.size.symm
  stab b o x := ⟨x, cell_same (h.heap b fun e => hs o (e ▸ x))⟩
  ob _ _ := rfl
  objs := Nat.le_refl _
  bufs tok b hb := ⟨b, hb, rfl, Nat.le_refl _, fun _ => rfl⟩
  rest := h.rest

theorem WRel.loc (hw : WRel W g A) {b0 : Nat} (h : Local W W' b0) (hs : ∀ o, ¬ g.S b0 o) (ho : g.own b0 = none) : WRel W' g A where
  obj id o hid := ⟨(hw.obj id o hid).1, ((hw.obj id o hid).2).ev (.loc h hs) (h.heap _ fun e => by have := (hw.obj id o hid).1; rw [e, ho] at this; cases this)⟩
  buf tok b hb := (hw.buf tok b hb).keep rfl (fun _ x => x) (fun blk hblk => h.heap _ fun e => by rw [e, ho] at hblk; cases hblk) (fun _ _ _ x => x) (fun _ _ r => (EvV.loc (g := g) (A := A) h hs).relD r)
  lt blk o hb := by rw [h.size]; exact hw.lt blk o hb
  stab b o x := by rw [h.size]; exact hw.stab b o x
  sobj := hw.sobj

theorem Ev.loc (e : Ev W0 g0 A0 W g A) {b0 : Nat} (h : Local W W' b0) (hs : ∀ o, ¬ g.S b0 o) (hN : W0.heap.size ≤ b0) : Ev W0 g0 A0 W' g A where
  toEvV := e.toEvV.trans (.loc h hs)
  free b hb ho := by
    obtain ⟨h1, h2, h3⟩ := e.free b hb ho
    exact ⟨(h.heap b (by omega)).trans h1, h2, h3⟩

/-- an object is new, or written -/
theorem WRel.setObj (hw : WRel W g A) {id : Nat} {o' : AObj}
    (hbufs : A'.bufs = A.bufs) (hother : ∀ i, i ≠ id → A'.objs[i]? = A.objs[i]?) (hat : A'.objs[id]? = some o') (hlen : A.objs.length ≤ A'.objs.length)
    (hrest : Rest W W') (hsize : W.heap.size ≤ W'.heap.size) (hheap : ∀ blk, blk < W.heap.size → blk ≠ g'.ob id → W'.heap[blk]? = W.heap[blk]?)
    (hS : g'.S = g.S) (hbf : g'.bf = g.bf) (hob : ∀ i, i < A.objs.length → g'.ob i = g.ob i) (hown : ∀ blk, blk < W.heap.size → g'.own blk = g.own blk)
    (hownid : g'.own (g'.ob id) = some (.obj id)) (hlt : g'.ob id < W'.heap.size) (hownnew : ∀ blk o, W.heap.size ≤ blk → g'.own blk = some o → o = .obj id ∧ blk < W'.heap.size)
    (hnew : EvV W g A W' g' A' → ObjAt W' g' A' (g'.ob id) o') : WRel W' g' A' ∧ Ev W g A W' g' A' := by
  have hne : ∀ b o, b < W.heap.size → g.own b = o → o ≠ some (.obj id) → b ≠ g'.ob id := by
    intro b o hb h1 h2 e
    rw [← hown b hb, e, hownid] at h1
    exact h2 h1.symm
  have hSne : ∀ b o, g.S b o → b ≠ g'.ob id := by
    intro b o hs e
    have hb := hw.stab b o hs
    have := hown b hb
    rw [e, hownid] at this
    exact hw.sobj b id o (by rw [e]; exact this.symm) hs
  have hev : EvV W g A W' g' A' := by
    refine ⟨hsize, fun b o hs => ⟨by rw [hS]; exact hs, cell_same (hheap b (hw.stab b o hs) (hSne b o hs))⟩, hob, hlen, fun t b hb => ⟨b, by rw [hbufs]; exact hb, rfl, Nat.le_refl _, fun _ => by rw [hbf]⟩, hrest⟩
  refine ⟨⟨fun i o ho => ?_, fun t b hb => ?_, fun blk o ho => ?_, fun b o hs => ?_, fun blk i o ho hs => ?_⟩, ⟨hev, fun b hb ho => ?_⟩⟩
  · by_cases hi : i = id
    · subst hi
      rw [hat] at ho
      cases ho
      exact ⟨hownid, hnew hev⟩
    · rw [hother i hi] at ho
      obtain ⟨h1, h2⟩ := hw.obj i o ho
      have hil := lt_of_get ho
      have hb := hw.lt _ _ h1
      rw [hob i hil, hown _ hb]
      refine ⟨h1, h2.ev hev (hheap _ hb (hne _ _ hb h1 fun e => ?_))⟩
      cases e; exact hi rfl
  · rw [hbufs] at hb
    refine (hw.buf t b hb).keep (by rw [hbf]) (fun blk h => by rw [hown _ (hw.lt _ _ h)]; exact h) (fun blk h => hheap _ (hw.lt _ _ h) (hne _ _ (hw.lt _ _ h) h fun e => by cases e)) (fun _ _ _ x => by rw [hS] at x; exact x) (fun _ _ r => hev.relD r)
  · rcases Nat.lt_or_ge blk W.heap.size with h | h
    · omega
    · exact (hownnew blk o h ho).2
  · rw [hS] at hs
    have := hw.stab b o hs
    omega
  · rw [hS] at hs
    have hb := hw.stab _ _ hs
    rw [hown _ hb] at ho
    exact hw.sobj _ _ _ ho hs
  · refine ⟨hheap b hb (hne b _ hb ho fun e => by cases e), by rw [hown b hb]; exact ho, fun o x => by rw [hS] at x; exact x⟩

/-- a buffer is new, or grows, or is written -/
theorem WRel.setBuf (hw : WRel W g A) {tok : Nat} {b' : ABuf}
    (hobjs : A'.objs = A.objs) (hother : ∀ t, t ≠ tok → A'.bufs[t]? = A.bufs[t]?) (hat : A'.bufs[tok]? = some b')
    (hold : ∀ b, A.bufs[tok]? = some b → b'.sz = b.sz ∧ b.rows.length ≤ b'.rows.length ∧ (b'.rows.length = b.rows.length → g'.bf tok = g.bf tok))
    (hrest : Rest W W') (hsize : W.heap.size ≤ W'.heap.size) (hheap : ∀ blk, blk < W.heap.size → g.own blk ≠ some (.buf tok) → W'.heap[blk]? = W.heap[blk]?)
    (hS : g'.S = g.S) (hob : g'.ob = g.ob) (hbf : ∀ t, t ≠ tok → g'.bf t = g.bf t) (hown : ∀ blk, blk < W.heap.size → g'.own blk = g.own blk)
    (hownnew : ∀ blk o, W.heap.size ≤ blk → g'.own blk = some o → o = .buf tok ∧ blk < W'.heap.size)
    (hstab : ∀ blk k, g.own blk = some (.buf tok) → g.S blk k → W'.cell? ⟨blk, k, none⟩ = W.cell? ⟨blk, k, none⟩)
    (hnew : EvV W g A W' g' A' → BufAt W' g' tok b') : WRel W' g' A' ∧ Ev W g A W' g' A' := by
  have hev : EvV W g A W' g' A' := by
    refine ⟨hsize, fun b o hs => ⟨by rw [hS]; exact hs, ?_⟩, fun _ _ => by rw [hob], by rw [hobjs]; exact Nat.le_refl _, fun t b hb => ?_, hrest⟩
    · by_cases h : g.own b = some (.buf tok)
      · exact hstab b o h hs
      · exact cell_same (hheap b (hw.stab b o hs) h)
    · by_cases ht : t = tok
      · subst ht
        obtain ⟨h1, h2, h3⟩ := hold b hb
        exact ⟨b', hat, h1, h2, h3⟩
      · exact ⟨b, by rw [hother t ht]; exact hb, rfl, Nat.le_refl _, fun _ => hbf t ht⟩
  refine ⟨⟨fun i o ho => ?_, fun t b hb => ?_, fun blk o ho => ?_, fun b o hs => ?_, fun blk i o ho hs => ?_⟩, ⟨hev, fun b hb ho => ?_⟩⟩
  · rw [hobjs] at ho
    obtain ⟨h1, h2⟩ := hw.obj i o ho
    have hb := hw.lt _ _ h1
    rw [hob, hown _ hb]
    exact ⟨h1, h2.ev hev (hheap _ hb (by rw [h1]; intro e; cases e))⟩
  · by_cases ht : t = tok
    · subst ht
      rw [hat] at hb
      cases hb
      exact hnew hev
    · rw [hother t ht] at hb
      refine (hw.buf t b hb).keep (hbf t ht) (fun blk h => by rw [hown _ (hw.lt _ _ h)]; exact h) (fun blk h => hheap _ (hw.lt _ _ h) (by rw [h]; intro e; cases e; exact ht rfl)) (fun _ _ _ x => by rw [hS] at x; exact x) (fun _ _ r => hev.relD r)
  · rcases Nat.lt_or_ge blk W.heap.size with h | h
    · omega
    · exact (hownnew blk o h ho).2
  · rw [hS] at hs
    have := hw.stab b o hs
    omega
  · rw [hS] at hs
    have hb := hw.stab _ _ hs
    rw [hown _ hb] at ho
    exact hw.sobj _ _ _ ho hs
  · refine ⟨hheap b hb (by rw [ho]; intro e; cases e), by rw [hown b hb]; exact ho, fun o x => by rw [hS] at x; exact x⟩

/-! ### new objects -/
def Gh.newObj (g : Gh) (id blk : Nat) : Gh := { g with ob := fun i => if i = id then blk else g.ob i, own := fun b => if b = blk then some (.obj id) else g.own b }

theorem WRel.pushObj (hw : WRel W g A) (o : AObj) (ob : Obj) (hp : plainObj ob) (hnew : ∀ g' A', EvV W g A (W.alloc ob) g' A' → ObjAt (W.alloc ob) g' A' W.heap.size o) :
    WRel (W.alloc ob) (g.newObj A.objs.length W.heap.size) { A with objs := A.objs ++ [o] } ∧ Ev W g A (W.alloc ob) (g.newObj A.objs.length W.heap.size) { A with objs := A.objs ++ [o] } := by
  refine hw.setObj (id := A.objs.length) (o' := o) rfl (fun i hi => ?_) (by simp) (by simp) (.alloc W hp) (by simp) (fun blk hb _ => heap_alloc_get hb) rfl rfl (fun i hi => ?_) (fun blk hb => ?_) ?_ ?_ (fun blk o' h1 h2 => ?_) (fun e => ?_)
  · rcases Nat.lt_or_ge i A.objs.length with h | h
    · rw [List.getElem?_append_left h]
    · rw [List.getElem?_eq_none h, List.getElem?_eq_none (by simp; omega)]
  · simp [Gh.newObj]; omega
  · simp [Gh.newObj]; omega
  · simp [Gh.newObj]
  · simp [Gh.newObj]
  · simp only [Gh.newObj] at h2
    split at h2
    · rename_i hb; cases h2; exact ⟨rfl, by rw [hb]; simp⟩
    · have := hw.lt _ _ h2; omega
  · have := hnew _ _ e
    simpa [Gh.newObj] using this

/-! ### cells written in place -/
theorem oneCell_rel {x : AV} {v : Value} (h : RelV W g A x v) (h1 : x.one = true) : v.oneCell' = true := by
  cases h <;> first | rfl | (simp [AV.one] at h1; done) | skip
  rename_i hd
  cases hd <;> rfl

theorem oneCells_rel {xs : List AV} {vs : List Value} (h : RelL W g A xs vs) (h1 : xs.all AV.one = true) : ∀ v ∈ vs, v.oneCell' = true := by
  intro v hv
  obtain ⟨i, hi, rfl⟩ := List.getElem_of_mem hv
  have hx : xs[i]? = some (xs[i]'(h.1 ▸ hi)) := List.getElem?_eq_getElem _
  refine oneCell_rel (h.2 i _ _ hx (List.getElem?_eq_getElem hi)) ?_
  exact List.all_eq_true.1 h1 _ (List.getElem_mem _)

theorem run_storeVar_at {t : TypeId} {n : Nat} {agg : Bool} (hk : kindT P t = some (n, agg)) {b o : Nat} {vs : Array Value} {T : TypeId} (hb : W.heap[b]? = some (.cells vs T (0, 0))) {v : Value} (hn : v.cells.size = n) (hfit : o + n ≤ vs.size)
    (h1 : ∀ u ∈ v.cells.toList, u.oneCell' = true) :
    (storeVar t ⟨b, o, none⟩ v).run P W = .ok () (W.setRow b (vs.toList.take o ++ v.cells.toList ++ vs.toList.drop (o + n)).toArray) := by
  have h := run_storeCells_at P b o T v.cells.toList 0 vs W hb (by simpa [hn] using hfit) h1
  simp only [Nat.add_zero, Array.length_toList, hn] at h
  simp only [storeVar, Sem.run_bind, run_sizeOf hk, Result.andThen_ok, hn, ne_eq, not_true_eq_false, if_false, Sem.run_pure, h]

theorem Rest.setRow (W : World) (b : Nat) (cs : Array Value) : Rest W (W.setRow b cs) := by
  refine ⟨rfl, rfl, fun a => ?_⟩
  unfold World.frozen?
  by_cases h : a.block = b
  · have e : (W.setRow b cs).heap[a.block]? = (W.heap[a.block]?).map (fun | .cells _ elem frozen => .cells cs elem frozen | o => o) := by
      subst h
      unfold World.setRow
      simp only [Array.getElem?_modify, if_true]
      rfl
    rw [e]
    cases hx : W.heap[a.block]? with
    | none => rfl
    | some o => cases o <;> rfl
  · rw [setRow_other W b _ cs h]

theorem setRow_local (b : Nat) (cs : Array Value) : Local W (W.setRow b cs) b := ⟨setRow_size W b cs, fun k h => setRow_other W b k cs h, .setRow W b cs⟩

theorem spliceV_rel {cs new cs' : List AV} {off : Nat} {vs vn : List Value} (hc : RelL W g A cs vs) (hn : RelL W g A new vn) (h : asplice cs off new = some cs') :
    RelL W g A cs' (vs.take off ++ vn ++ vs.drop (off + vn.length)) := by
  have h1 := (asplice_get h).1
  have e1 := hc.1
  have e2 := hn.1
  have hs : asplice (cs.take cs.length) off new = some cs' := by simpa using h
  refine asplice_rel hc hn h (by simp; omega) fun i => ?_
  by_cases h1' : i < off
  · rw [if_neg (by omega), List.append_assoc, List.getElem?_append_left (by simp; omega), List.getElem?_take, if_pos h1']
  · by_cases h2 : i < off + vn.length
    · rw [if_pos (by omega), List.append_assoc, List.getElem?_append_right (by simp; omega), List.getElem?_append_left (by simp; omega)]
      congr 1
      simp; omega
    · rw [if_neg (by omega), List.getElem?_append_right (by simp; omega), List.getElem?_drop]
      congr 1
      simp; omega

end
end Go.Abs
