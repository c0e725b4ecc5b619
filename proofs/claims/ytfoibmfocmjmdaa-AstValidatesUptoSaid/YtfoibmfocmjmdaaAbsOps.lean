/- Each operation of the model does what the abstract one says. -/
import Derived.Test.YtfoibmfocmjmdaaAbsRel
import Derived.Laws.Cells
import Derived.Laws.Strings
import Derived.Laws.AppendOwn
import Derived.Laws.StructEq
import Derived.Laws.Rows
import Derived.Laws.Small
set_option linter.unusedVariables false
set_option linter.unusedSimpArgs false
set_option linter.all false
set_option linter.deprecated false
namespace Go.Abs

section
variable {P : Program} {W : World} {g : Gh} {A : AHeap} {N nt : Nat} {β : Nat → Nat} {env : AEnv} {a : Act}

/-! constants and operands -/
theorem vcell_rel {v : Value} {x : AV} (h : vcell v = some x) : RelV W g A x v := by
  unfold vcell at h
  split at h <;> cases h
  · exact .d _ _ (.bool _)
  · exact .d _ _ (.int _ _)
  · exact .d _ _ (.str _)
  · exact .nilS
  · exact .nilP
  · exact .nilF
  · exact .nilM

theorem vcells_rel : ∀ {vs : List Value} {xs : List AV}, vcells vs = some xs → RelL W g A xs vs
  | [], _, h => by cases h; exact ⟨rfl, fun i x v h1 => by simp at h1⟩
  | v :: vs, xs, h => by
    simp only [vcells, Option.bind_eq_some_iff, Option.map_eq_some_iff] at h
    obtain ⟨x, hx, ys, hy, rfl⟩ := h
    have ih : RelL W g A ys vs := vcells_rel hy
    refine ⟨by simp [ih.1], fun i z u h1 h2 => ?_⟩
    cases i with
    | zero => simp at h1 h2; subst h1; subst h2; exact vcell_rel hx
    | succ i => simp at h1 h2; exact ih.2 i z u h1 h2

theorem RelL.agg {cs : List AV} {vs : List Value} (h : RelL W g A cs vs) : RelV W g A (.agg cs) (.agg vs.toArray) := .agg cs vs h.1 h.2
theorem RelL.aggA {cs : List AV} {vs : Array Value} (h : RelL W g A cs vs.toList) : RelV W g A (.agg cs) (.agg vs) := by
  have := h.agg; simpa using this
theorem RelL.tupleA {cs : List AV} {vs : Array Value} (h : RelL W g A cs vs.toList) : RelV W g A (.tuple cs) (.tuple vs) := by
  have := RelV.tuple (W := W) (g := g) (A := A) cs vs.toList h.1 h.2; simpa using this

theorem aval_rel {v : Value} {x : AV} (h : aval v = some x) : RelV W g A x v := by
  unfold aval at h
  split at h
  · rename_i cs
    rw [Option.map_eq_some_iff] at h
    obtain ⟨xs, hx, rfl⟩ := h
    exact (vcells_rel hx).aggA
  · rename_i fn first captured
    split at h
    · rename_i h1
      cases h
      obtain rfl : first = #[] := Array.eq_empty_of_size_eq_zero h1.1
      obtain rfl : captured = #[] := Array.eq_empty_of_size_eq_zero h1.2
      exact .func _ [] [] [] [] rfl rfl (fun i x v h1 => by simp at h1) (fun i x v h1 => by simp at h1)
    · cases h
  · rename_i vs
    split at h
    · rename_i h1
      cases h
      obtain rfl : vs = #[] := Array.eq_empty_of_size_eq_zero h1
      exact .tuple [] [] rfl (fun i x v h1 => by simp at h1)
    · cases h
  · exact vcell_rel h

theorem aeval_rel (he : ERel W g A N nt β env a) {x : Operand} {v : AV} (h : aeval env x = some v) : RelV W g A v (a.eval x) := by
  cases x with
  | tmp t =>
    simp only [aeval] at h
    split at h
    · rename_i y hy
      cases h
      cases he.slot t _ hy with
      | v _ u hu r => simpa [Act.eval, Array.getD_eq_getD_getElem?, hu] using r
    · cases h
  | const c => exact aval_rel h
  | func f => cases h; exact .func _ [] [] [] [] rfl rfl (fun i x v h1 => by simp at h1) (fun i x v h1 => by simp at h1)
  | global i => cases h

theorem aevals_rel (he : ERel W g A N nt β env a) : ∀ {xs : List Operand} {vs : List AV}, aevals env xs = some vs → RelL W g A vs (xs.map a.eval)
  | [], _, h => by cases h; exact ⟨rfl, fun i x v h1 => by simp at h1⟩
  | x :: xs, vs, h => by
    simp only [aevals, Option.bind_eq_some_iff, Option.map_eq_some_iff] at h
    obtain ⟨y, hy, ys, hys, rfl⟩ := h
    have ih := aevals_rel he hys
    refine ⟨by simp [ih.1], fun i z u h1 h2 => ?_⟩
    cases i with
    | zero => simp at h1 h2; subst h1; subst h2; exact aeval_rel he hy
    | succ i =>
      simp only [List.map_cons, List.getElem?_cons_succ] at h1 h2
      exact ih.2 i z u h1 h2

theorem aplace_rel (he : ERel W g A N nt β env a) {x : Operand} {s off : Nat} (h : aplace env x = some (s, off)) : a.eval x = .pointer (some ⟨β s, off, none⟩) := by
  cases x with
  | tmp t =>
    simp only [aplace] at h
    split at h
    · rename_i cs hc
      cases h
      cases he.slot _ _ hc with
      | box _ hu vs T hw r ho hs => simp [Act.eval, Array.getD_eq_getD_getElem?, hu]
    · rename_i s' off' hp
      cases h
      cases he.slot _ _ hp with
      | place _ _ hu => simp [Act.eval, Array.getD_eq_getD_getElem?, hu]
    · cases h
  | _ => simp [aplace] at h

theorem abox_rel (he : ERel W g A N nt β env a) {s : Nat} {cs : List AV} (h : abox env s = some cs) :
    ∃ vs T, W.heap[β s]? = some (.cells vs T (0, 0)) ∧ RelL W g A cs vs.toList ∧ g.own (β s) = none ∧ (∀ o, ¬ g.S (β s) o) ∧ N ≤ β s ∧ alook env s = some (.box cs) := by
  unfold abox at h
  split at h
  · rename_i ds hd
    cases h
    cases he.slot s _ hd with
    | box _ hu vs T hw r ho hs => exact ⟨vs, T, hw, r, ho, hs, he.young _ _ hd, hd⟩
  · cases h

/-! values' cells -/
theorem cells_rel {x : AV} {v : Value} (h : RelV W g A x v) : RelL W g A x.cells v.cells.toList := by
  have one : ∀ {x : AV} {v : Value}, x.cells = [x] → v.cells = #[v] → RelV W g A x v → RelL W g A x.cells v.cells.toList := by
    intro x v h1 h2 r
    rw [h1, h2]
    refine ⟨rfl, fun i y u e1 e2 => ?_⟩
    cases i with
    | zero => simp at e1 e2; subst e1; subst e2; exact r
    | succ i => simp at e1
  cases h with
  | agg cs vs hl r => exact ⟨by simpa [AV.cells, Value.cells] using hl, by simpa [AV.cells, Value.cells] using r⟩
  | d x v hd => exact one rfl (by cases hd <;> rfl) (.d _ _ hd)
  | nilS => exact one rfl rfl .nilS
  | full rows a h => exact one rfl rfl (.full rows a h)
  | own tok len a cap ht h => exact one rfl rfl (.own tok len a cap ht h)
  | nilP => exact one rfl rfl .nilP
  | ptr id off h => exact one rfl rfl (.ptr id off h)
  | sptr ds b o val hc hv => exact one rfl rfl (.sptr ds b o val hc hv)
  | eptr tok len i off p ht h => exact one rfl rfl (.eptr tok len i off p ht h)
  | nilF => exact one rfl rfl .nilF
  | nilM => exact one rfl rfl .nilM
  | func fn f c vs us h1 h2 r1 r2 => exact one rfl rfl (.func fn f c vs us h1 h2 r1 r2)
  | mapr id h => exact one rfl rfl (.mapr id h)
  | tuple cs vs h r => exact one rfl rfl (.tuple cs vs h r)

/-! ### reading memory -/
theorem addr_add (b o n : Nat) : (⟨b, o, none⟩ : Addr).add n = ⟨b, o + n, none⟩ := by
  unfold Addr.add
  by_cases h : n = 0 <;> simp [h]

/-- from here on there are cells that read so -/
def CellsAt (W : World) (g : Gh) (A : AHeap) (cs : List AV) (b o : Nat) : Prop :=
  ∀ (j : Nat) (c : AV), cs[j]? = some c → ∃ v, W.cell? ⟨b, o + j, none⟩ = some v ∧ RelV W g A c v

theorem RelL.cellsAt {cs : List AV} {vs : Array Value} {b : Nat} {T : TypeId} {fz : Nat × Nat} (h : RelL W g A cs vs.toList) (hw : W.heap[b]? = some (.cells vs T fz)) : CellsAt W g A cs b 0 := by
  intro j c hj
  have hlt : j < vs.toList.length := h.1 ▸ lt_of_get hj
  have hv : vs.toList[j]? = some (vs.toList[j]) := List.getElem?_eq_getElem hlt
  refine ⟨_, ?_, h.2 j c _ hj hv⟩
  rw [cell_of_row W b (0 + j) vs T fz hw, Nat.zero_add, ← Array.getElem?_toList]
  exact hv

theorem kindT_some {t : TypeId} {n : Nat} {agg : Bool} (h : kindT P t = some (n, agg)) :
    ∃ i d, P.info? t = some i ∧ P.underlying t = some d ∧ i.size = n ∧ agg = (match d with | .struct _ | .array _ _ => true | _ => false) := by
  unfold kindT at h
  split at h
  · rename_i i d hi hd
    cases h
    exact ⟨i, d, hi, hd, rfl, rfl⟩
  · cases h

theorem run_sizeOf {t : TypeId} {n : Nat} {agg : Bool} (h : kindT P t = some (n, agg)) (w : World) : (sizeOf t).run P w = .ok n w := by
  obtain ⟨i, d, hi, hd, hs, ha⟩ := kindT_some h
  simp [sizeOf, typeInfo, hi, hs]

theorem run_isAgg {t : TypeId} {n : Nat} {agg : Bool} (h : kindT P t = some (n, agg)) (w : World) : (isAgg t).run P w = .ok agg w := by
  obtain ⟨i, d, hi, hd, hs, ha⟩ := kindT_some h
  subst ha
  cases d <;> simp [isAgg, underlying, hd]

theorem run_loadVar {t : TypeId} {n : Nat} {agg : Bool} (hk : kindT P t = some (n, agg)) {cs : List AV} {b o off : Nat} (hc : CellsAt W g A cs b o) {x : AV} (h : apart cs off n agg = some x) :
    ∃ v, (loadVar t ⟨b, o + off, none⟩).run P W = .ok v W ∧ RelV W g A x v := by
  cases agg with
  | false =>
    simp only [apart, Bool.false_eq_true, if_false] at h
    obtain ⟨v, hv, hr⟩ := hc off x h
    refine ⟨v, ?_, hr⟩
    simp only [loadVar, Sem.run_bind, run_isAgg hk, Result.andThen_ok, Bool.false_eq_true, if_false, run_load, hv]
  | true =>
    simp only [apart, if_true] at h
    split at h
    · rename_i hle
      cases h
      have hex : ∀ j, j < n → ∃ v, W.cell? ⟨b, o + off + j, none⟩ = some v ∧ ∀ c, cs[off + j]? = some c → RelV W g A c v := by
        intro j hj
        obtain ⟨v, hv, hr⟩ := hc (off + j) _ (List.getElem?_eq_getElem (by omega))
        refine ⟨v, by rw [Nat.add_assoc]; exact hv, fun c hcc => ?_⟩
        rw [List.getElem?_eq_getElem (by omega)] at hcc
        cases hcc
        exact hr
      let f : Nat → Value := fun j => if hj : j < n then (hex j hj).choose else undef
      have hf : ∀ j, j < n → W.cell? ⟨b, o + off + j, none⟩ = some (f j) ∧ ∀ c, cs[off + j]? = some c → RelV W g A c (f j) := by
        intro j hj
        simp only [f, hj, dif_pos]
        exact (hex j hj).choose_spec
      have hrun := run_loadCells (P := P) W ⟨b, o + off, none⟩ n f (fun j hj => by rw [addr_add]; exact (hf j hj).1)
      refine ⟨.agg ((List.range n).map f).toArray, ?_, ?_⟩
      · simp only [loadVar, Sem.run_bind, run_isAgg hk, Result.andThen_ok, if_true, run_sizeOf hk, hrun, Sem.run_pure]
      · refine .agg _ _ (by simp; omega) fun i c v h1 h2 => ?_
        rw [List.getElem?_take] at h1
        split at h1
        · rename_i hi
          rw [List.getElem?_drop] at h1
          rw [List.getElem?_map, List.getElem?_range hi] at h2
          cases h2
          exact (hf i hi).2 c h1
        · cases h1
    · cases h

theorem WRel.cellsObj (hw : WRel W g A) {id : Nat} {cs : List AV} (h : A.objs[id]? = some (.cells cs)) : CellsAt W g A cs (g.ob id) 0 := by
  obtain ⟨_, vs, T, h1, h2⟩ := hw.obj id _ h
  exact h2.cellsAt h1

theorem BufAt.cells {tok : Nat} {b : ABuf} (h : BufAt W g tok b) {blk cap : Nat} (hb : g.bf tok = .slice (some ⟨blk, 0, none⟩) b.rows.length cap) {i : Nat} {row : List Dat} (hi : b.rows[i]? = some row) :
    CellsAt W g A (row.map .d) blk (i * b.sz) := by
  obtain ⟨blk', cap', vs, h1, h2, h3, h4, h5, hm, h6, h7, h8, h9⟩ := h.ex
  rw [hb] at h1
  cases h1
  intro j c hj
  rw [List.getElem?_map, Option.map_eq_some_iff] at hj
  obtain ⟨d, hd, rfl⟩ := hj
  obtain ⟨v, hv, hr⟩ := h8 i j row d hi hd
  refine ⟨v, ?_, .d _ _ hr⟩
  rw [cell_of_row W blk _ vs _ (0, 0) h3]
  exact hv

theorem aload_rel (hw : WRel W g A) {t : TypeId} {n : Nat} {agg : Bool} (hk : kindT P t = some (n, agg)) {p : AV} {u : Value} (hr : RelV W g A p u) {x : AV} (h : aload A n agg p = some x) :
    ∃ ad v, u = .pointer (some ad) ∧ (loadVar t ad).run P W = .ok v W ∧ RelV W g A x v := by
  cases hr with
  | ptr id off hid =>
    simp only [aload] at h
    split at h
    · rename_i cs hcs
      obtain ⟨v, h1, h2⟩ := run_loadVar hk (hw.cellsObj hcs) h
      exact ⟨_, v, rfl, by simpa using h1, h2⟩
    · cases h
  | sptr ds b o val hcell hval =>
    simp only [aload] at h
    have hc : CellsAt W g A (ds.map .d) b o := by
      intro j c hj
      rw [List.getElem?_map, Option.map_eq_some_iff] at hj
      obtain ⟨d, hd, rfl⟩ := hj
      exact ⟨_, (hcell j d hd).2, .d _ _ (hval j d hd)⟩
    obtain ⟨v, h1, h2⟩ := run_loadVar hk hc h
    exact ⟨_, v, rfl, by simpa using h1, h2⟩
  | eptr tok len i off p ht hp =>
    simp only [aload] at h
    split at h
    · rename_i b hb
      split at h
      · rename_i hlen
        split at h
        · rename_i row hrow
          obtain ⟨blk, cap, e1, e2⟩ := (hp b hb).2 hlen
          have hbuf := hw.buf tok b hb
          rw [← hlen] at e1
          obtain ⟨v, h1, h2⟩ := run_loadVar hk (hbuf.cells (A := A) e1 hrow) h
          exact ⟨p, v, rfl, by rw [e2]; exact h1, h2⟩
        · cases h
      · cases h
    · cases h
  | _ => simp [aload] at h

/-! ### laying parts into cells -/
theorem foldl_set_get (new : List Value) : ∀ (k off : Nat) (vs : Array Value) (i : Nat), off + k + new.length ≤ vs.size →
    ((new.zipIdx k).foldl (fun cs (p : Value × Nat) => cs.setIfInBounds (off + p.2) p.1) vs).size = vs.size ∧
    ((new.zipIdx k).foldl (fun cs (p : Value × Nat) => cs.setIfInBounds (off + p.2) p.1) vs)[i]? = if off + k ≤ i ∧ i < off + k + new.length then new[i - (off + k)]? else vs[i]? := by
  induction new with
  | nil => intro k off vs i h; simp; omega
  | cons v new ih =>
    intro k off vs i h
    simp only [List.length_cons] at h
    simp only [List.zipIdx_cons, List.foldl_cons]
    have h2 := ih (k + 1) off (vs.setIfInBounds (off + k) v) i (by simp; omega)
    refine ⟨by rw [h2.1]; simp, ?_⟩
    rw [h2.2]
    by_cases hi : i = off + k
    · subst hi
      have hlt : off + k < vs.size := by omega
      rw [if_neg (by omega), if_pos (by simp only [List.length_cons]; omega)]
      simp [hlt]
    · have hne : off + k ≠ i := fun e => hi e.symm
      rw [Array.getElem?_setIfInBounds_ne hne]
      by_cases hc : off + (k + 1) ≤ i ∧ i < off + (k + 1) + new.length
      · rw [if_pos hc, if_pos (by simp only [List.length_cons]; omega)]
        rw [show i - (off + k) = (i - (off + (k + 1))) + 1 by omega, List.getElem?_cons_succ]
      · rw [if_neg hc, if_neg (by simp only [List.length_cons]; omega)]

theorem asplice_get {cs new cs' : List AV} {off : Nat} (h : asplice cs off new = some cs') : off + new.length ≤ cs.length ∧ cs'.length = cs.length ∧
    ∀ i, cs'[i]? = if off ≤ i ∧ i < off + new.length then new[i - off]? else cs[i]? := by
  unfold asplice at h
  split at h
  · rename_i hle
    cases h
    refine ⟨hle, by simp; omega, fun i => ?_⟩
    by_cases h1 : i < off
    · rw [if_neg (by omega), List.append_assoc, List.getElem?_append_left (by simp; omega), List.getElem?_take, if_pos h1]
    · by_cases h2 : i < off + new.length
      · rw [if_pos (by omega), List.append_assoc, List.getElem?_append_right (by simp; omega), List.getElem?_append_left (by simp; omega)]
        congr 1
        simp; omega
      · rw [if_neg (by omega), List.getElem?_append_right (by simp; omega), List.getElem?_drop]
        congr 1
        simp; omega
  · cases h

theorem asplice_rel {cs new cs' : List AV} {off : Nat} {vs vn vs' : List Value} (hc : RelL W g A cs vs) (hn : RelL W g A new vn) (h : asplice cs off new = some cs') (hl : vs'.length = vs.length)
    (hv : ∀ i, vs'[i]? = if off ≤ i ∧ i < off + vn.length then vn[i - off]? else vs[i]?) : RelL W g A cs' vs' := by
  obtain ⟨h1, h2, h3⟩ := asplice_get h
  refine ⟨by rw [h2, hl]; exact hc.1, fun i x v e1 e2 => ?_⟩
  rw [h3] at e1
  rw [hv, ← hn.1] at e2
  split at e1
  · rename_i hi
    rw [if_pos hi] at e2
    exact hn.2 _ x v e1 e2
  · rename_i hi
    rw [if_neg hi] at e2
    exact hc.2 _ x v e1 e2

theorem fill_rel {place : Nat → Option (Nat × Nat)} : ∀ {ps : List (Nat × AV)} {qs : List (Nat × Value)} {cs cs' : List AV} {vs : Array Value}, RelL W g A cs vs.toList →
    ps.length = qs.length → (∀ (i : Nat) (p : Nat × AV) (q : Nat × Value), ps[i]? = some p → qs[i]? = some q → p.1 = q.1 ∧ RelV W g A p.2 q.2) →
    afill place cs ps = some cs' → ∃ vs', Instr.fill place vs qs = some vs' ∧ RelL W g A cs' vs'.toList
  | [], [], cs, cs', vs, hc, _, _, h => by
    simp only [afill] at h
    cases h
    exact ⟨vs, rfl, hc⟩
  | [], _ :: _, _, _, _, _, hl, _, _ => by simp at hl
  | _ :: _, [], _, _, _, _, hl, _, _ => by simp at hl
  | (i, x) :: ps, (j, v) :: qs, cs, cs', vs, hc, hl, hr, h => by
    obtain ⟨e1, e2⟩ := hr 0 _ _ rfl rfl
    simp only at e1 e2
    subst e1
    simp only [afill, Option.bind_eq_some_iff] at h
    obtain ⟨⟨off, n⟩, hp, h⟩ := h
    simp only at h
    split at h
    · rename_i hlen
      rw [Option.bind_eq_some_iff] at h
      obtain ⟨cs1, hs, h⟩ := h
      have hcells := cells_rel e2
      obtain ⟨g1, g2, g3⟩ := asplice_get hs
      have hvl : v.cells.toList.length = n := by rw [← hcells.1]; exact hlen
      have hvs : v.cells.size = n := by simpa using hvl
      have hsz : off + 0 + v.cells.toList.length ≤ vs.size := by
        have := hc.1
        simp only [Array.length_toList] at this hvl ⊢
        omega
      have hget := fun i => foldl_set_get v.cells.toList 0 off vs i hsz
      have hfold : (v.cells.zipIdx.foldl (fun (cs : Array Value) (p : Value × Nat) => cs.setIfInBounds (off + p.2) p.1) vs) = ((v.cells.toList.zipIdx 0).foldl (fun cs (p : Value × Nat) => cs.setIfInBounds (off + p.2) p.1) vs) := by
        rw [← Array.foldl_toList, Array.toList_zipIdx]
      have hrel : RelL W g A cs1 ((v.cells.toList.zipIdx 0).foldl (fun cs (p : Value × Nat) => cs.setIfInBounds (off + p.2) p.1) vs).toList := by
        refine asplice_rel hc hcells hs (by simpa using (hget 0).1) fun i => ?_
        rw [Array.getElem?_toList, (hget i).2]
        simp only [Nat.add_zero, Array.getElem?_toList]
      obtain ⟨vs', hf, hr'⟩ := fill_rel hrel (by simpa using hl) (fun i p q h1 h2 => hr (i + 1) p q h1 h2) h
      refine ⟨vs', ?_, hr'⟩
      unfold Instr.fill
      simp only [hp]
      have hn : ¬ ((decide (v.cells.size ≠ n) || decide (off + v.cells.size > vs.size)) = true) := by
        simp only [Array.length_toList] at hsz
        simp only [Bool.or_eq_true, decide_eq_true_eq]
        omega
      rw [if_neg hn, ← hf, ← hfold]
    · cases h

theorem aparts_rel (he : ERel W g A N nt β env a) : ∀ {ps : List (Nat × Operand)} {qs : List (Nat × AV)}, aparts env ps = some qs →
    qs.length = ps.length ∧ ∀ (i : Nat) (p : Nat × AV) (q : Nat × Operand), qs[i]? = some p → ps[i]? = some q → p.1 = q.1 ∧ RelV W g A p.2 (a.eval q.2)
  | [], _, h => by cases h; exact ⟨rfl, fun i p q h1 => by simp at h1⟩
  | (j, x) :: ps, qs, h => by
    simp only [aparts, Option.bind_eq_some_iff, Option.map_eq_some_iff] at h
    obtain ⟨y, hy, ys, hys, rfl⟩ := h
    have ih := aparts_rel he hys
    refine ⟨by simp [ih.1], fun i p q h1 h2 => ?_⟩
    cases i with
    | zero => simp at h1 h2; subst h1; subst h2; exact ⟨rfl, aeval_rel he hy⟩
    | succ i =>
      simp only [List.getElem?_cons_succ] at h1 h2
      exact ih.2 i p q h1 h2

/-! ### operations that leave the world alone -/
/-- the operation hands back a value that reads so; the heap goes on -/
def Out (P : Program) (W : World) (g : Gh) (A A' : AHeap) (x : AV) (s : Sem Next) : Prop :=
  ∃ v W' g', s.run P W = .ok (.value v) W' ∧ RelV W' g' A' x v ∧ WRel W' g' A' ∧ Ev W g A W' g' A'

theorem Out.pure (hw : WRel W g A) {s : Sem Next} {v : Value} {x : AV} (h : s.run P W = .ok (.value v) W) (r : RelV W g A x v) : Out P W g A A x s :=
  ⟨v, W, g, h, r, hw, .refl W g A⟩

theorem Out.sem (hw : WRel W g A) {s : Sem Value} {v : Value} {x : AV} (h : s.run P W = .ok v W) (r : RelV W g A x v) : Out P W g A A x (do Pure.pure (.value (← s))) :=
  .pure hw (by simp [h]) r

theorem RelV.dInt {k : IntKind} {n : Int} {v : Value} (h : RelV W g A (.d (.int k n)) v) : v = .int k n := by
  cases h with | d _ _ h => cases h; rfl
theorem RelV.dBool {b : Bool} {v : Value} (h : RelV W g A (.d (.bool b)) v) : v = .bool b := by
  cases h with | d _ _ h => cases h; rfl
theorem RelV.dStr {s : List UInt8} {v : Value} (h : RelV W g A (.d (.str s)) v) : ∃ b : ByteArray, v = .string b ∧ b.data.toList = s := by
  cases h with | d _ _ h => cases h; exact ⟨_, rfl, rfl⟩
theorem RelV.int (k : IntKind) (n : Int) : RelV W g A (.d (.int k n)) (.int k n) := .d _ _ (.int k n)
theorem RelV.bool (b : Bool) : RelV W g A (.d (.bool b)) (.bool b) := .d _ _ (.bool b)
theorem RelV.str (s : ByteArray) : RelV W g A (.d (.str s.data.toList)) (.string s) := .d _ _ (.str s)

theorem part_rel {t : TypeId} {n : Nat} {agg : Bool} (hk : kindT P t = some (n, agg)) {cs : List AV} {vs : Array Value} (hc : RelL W g A cs vs.toList) {off : Nat} {x : AV} (h : apart cs off n agg = some x) (w : World) :
    ∃ v, (part t vs off).run P w = .ok v w ∧ RelV W g A x v := by
  cases agg with
  | false =>
    simp only [apart, Bool.false_eq_true, if_false] at h
    have hlt : off < vs.toList.length := hc.1 ▸ lt_of_get h
    have hv : vs.toList[off]? = some (vs.toList[off]) := List.getElem?_eq_getElem hlt
    refine ⟨_, ?_, hc.2 off x _ h hv⟩
    have hv' : vs[off]? = some (vs.toList[off]) := by rw [← Array.getElem?_toList]; exact hv
    simp only [part, Sem.run_bind, run_isAgg hk, Result.andThen_ok, Bool.false_eq_true, if_false, hv', Sem.run_pure]
  | true =>
    simp only [apart, if_true] at h
    split at h
    · rename_i hle
      cases h
      refine ⟨.agg (vs.extract off (off + n)), ?_, ?_⟩
      · simp only [part, Sem.run_bind, run_isAgg hk, Result.andThen_ok, if_true, run_sizeOf hk, Sem.run_pure]
      · have hle' : off + n ≤ vs.size := by have := hc.1; simp only [Array.length_toList] at this; omega
        refine RelL.aggA ⟨by simp; omega, fun i c v h1 h2 => ?_⟩
        rw [List.getElem?_take] at h1
        split at h1
        · rename_i hi
          rw [List.getElem?_drop] at h1
          rw [Array.getElem?_toList, Array.getElem?_extract] at h2
          split at h2
          · exact hc.2 (off + i) c v h1 (by rw [Array.getElem?_toList]; exact h2)
          · cases h2
        · cases h1
    · cases h

theorem fieldT_some {t : TypeId} {i off n : Nat} {agg : Bool} (h : fieldT P t i = some (off, n, agg)) :
    ∃ fs f, P.underlying t = some (.struct fs) ∧ fs[i]? = some f ∧ f.offset = off ∧ kindT P f.type = some (n, agg) := by
  unfold fieldT at h
  split at h
  · rename_i fs hu
    rw [Option.bind_eq_some_iff] at h
    obtain ⟨f, hf, h⟩ := h
    rw [Option.map_eq_some_iff] at h
    obtain ⟨k, hk, h⟩ := h
    cases h
    exact ⟨fs, f, hu, hf, rfl, hk⟩
  · cases h

theorem arrT_some {t : TypeId} {m n : Nat} {agg : Bool} (h : arrT P t = some (m, n, agg)) : ∃ e, P.underlying t = some (.array m e) ∧ kindT P e = some (n, agg) := by
  unfold arrT at h
  split at h
  · rename_i m' e hu
    rw [Option.map_eq_some_iff] at h
    obtain ⟨k, hk, h⟩ := h
    cases h
    exact ⟨e, hu, hk⟩
  · cases h

theorem elemT_some {t e : TypeId} {n : Nat} (h : elemT P t = some (e, n)) : P.underlying t = some (.slice e) ∧ ∃ agg, kindT P e = some (n, agg) := by
  unfold elemT at h
  split at h
  · rename_i e' hu
    rw [Option.map_eq_some_iff] at h
    obtain ⟨k, hk, h⟩ := h
    cases h
    exact ⟨hu, k.2, hk⟩
  · cases h

theorem strT_true {t : TypeId} (h : strT P t = true) : P.underlying t = some .string := by
  unfold strT at h
  split at h
  · assumption
  · cases h
theorem boolT_true {t : TypeId} (h : boolT P t = true) : P.underlying t = some .bool := by
  unfold boolT at h
  split at h
  · assumption
  · cases h

theorem eqGuard_plain (op : BinOp) (t : TypeId) (x y : Operand) (a b : Value) (h1 : a ≠ .nilIface) (h2 : ∀ cs, a ≠ .agg cs) (w : World) : (eqGuard op t x y a b).run P w = .ok () w := by
  unfold eqGuard
  by_cases hop : op = .eql ∨ op = .neq
  · rcases hop with rfl | rfl <;> cases a <;> first | exact absurd rfl h1 | exact absurd rfl (h2 _) | (cases b <;> simp)
  · cases op <;> first | exact absurd (.inl rfl) hop | exact absurd (.inr rfl) hop | simp_all

theorem bin_int {op : BinOp} {t : TypeId} {k : IntKind} {p q : Int} {d : Dat} (h : aarith op k p q = some d) : ∃ v, (binOp op t (.int k p) (.int k q)).run P W = .ok v W ∧ RelD W g.S d v := by
  cases op <;> simp only [aarith, acmp] at h <;> try (cases h; done)
  case quo => split at h <;> cases h; rename_i hq; exact ⟨_, by simp [binOp, Op.intDiv, hq], .int _ _⟩
  case rem => split at h <;> cases h; rename_i hq; exact ⟨_, by simp [binOp, Op.intDiv, hq], .int _ _⟩
  all_goals
    cases h
    exact ⟨_, by simp [binOp, Op.intArith, Op.intCmp] <;> rfl, by first | exact .int _ _ | exact .bool _⟩

theorem bin_str {op : BinOp} {t : TypeId} {p q : ByteArray} {d : Dat} (h : astr op p.data.toList q.data.toList = some d) : ∃ v, (binOp op t (.string p) (.string q)).run P W = .ok v W ∧ RelD W g.S d v := by
  cases op <;> simp only [astr] at h <;> try (cases h; done)
  case add =>
    split at h <;> cases h
    rename_i hle
    have hp : p.data.toList.length = p.size := by rw [Array.length_toList]; rfl
    have hq : q.data.toList.length = q.size := by rw [Array.length_toList]; rfl
    rw [hp, hq] at hle
    have hn : ¬ (((p.size + q.size : Nat) : Int) > IntKind.i64.max) := by
      simp only [IntKind.max, IntKind.signed, IntKind.bits, if_true]
      omega
    refine ⟨.string (p ++ q), ?_, ?_⟩
    · simp only [binOp, Op.stringOp, if_neg hn, Sem.run_pure]
    · have e : (p ++ q).data.toList = p.data.toList ++ q.data.toList := by simp
      rw [← e]
      exact .str _
  all_goals
    cases h
    refine ⟨_, by simp only [binOp, Op.stringOp, Sem.run_pure, ByteArray.toList_eq]; rfl, ?_⟩
    first | exact .bool _

theorem bin_bool {op : BinOp} {t : TypeId} {p q : Bool} {x : AV} (ht : boolT P t = true)
    (h : (match op with | .eql => some (AV.d (.bool (p == q))) | .neq => some (.d (.bool (!(p == q)))) | _ => none) = some x) :
    ∃ v, (binOp op t (.bool p) (.bool q)).run P W = .ok v W ∧ RelV W g A x v := by
  cases op <;> simp only at h <;> try (cases h; done)
  · cases h; exact ⟨_, run_eql_bool W t p q (boolT_true ht), .bool _⟩
  · cases h; exact ⟨_, run_neq_bool W t p q (boolT_true ht), .bool _⟩

theorem kind_plain {t : TypeId} {k : Nat} (h : plainT P t = some k) : ∃ n, kindT P t = some (n, false) := by
  unfold plainT at h
  have hi : ∃ i, P.info? t = some i := by
    cases hi : P.info? t with
    | some i => exact ⟨i, rfl⟩
    | none =>
      have : P.underlying t = none := by unfold Program.underlying; simp [hi]
      simp [this] at h
  obtain ⟨i, hi⟩ := hi
  refine ⟨i.size, ?_⟩
  unfold kindT
  rw [hi]
  split at h <;> rename_i hu <;> first | (rw [hu]; done) | cases h

theorem run_part_plain {t : TypeId} {k : Nat} (h : plainT P t = some k) {xs : Array Value} {i : Nat} {v : Value} (hv : xs[i]? = some v) (w : World) : (part t xs i).run P w = .ok v w := by
  obtain ⟨n, hn⟩ := kind_plain h
  simp only [part, Sem.run_bind, run_isAgg hn, Result.andThen_ok, Bool.false_eq_true, if_false, hv, Sem.run_pure]

theorem eqFields_rel (d : Nat) : ∀ {fs : List Field} {ks : List Nat} {i : Nat} {cs ds : List AV} {xs ys : Array Value} {b : Bool}, flatL P i fs = some ks →
    aeqCells ks cs ds = some b → RelL W g A cs (xs.toList.drop i) → RelL W g A ds (ys.toList.drop i) → (Op.eqFields (d + 1) xs ys fs).run P W = .ok b W
  | [], ks, i, cs, ds, xs, ys, b, hf, h, hx, hy => by
    cases hf
    cases cs <;> cases ds <;> simp only [aeqCells] at h <;> cases h
    simp [Op.eqFields]
  | f :: fs, ks, i, cs, ds, xs, ys, b, hf, h, hx, hy => by
    unfold flatL at hf
    split at hf
    · rename_i hc
      rw [Option.bind_eq_some_iff] at hf
      obtain ⟨k, hk, hf⟩ := hf
      rw [Option.map_eq_some_iff] at hf
      obtain ⟨ks', hks, rfl⟩ := hf
      simp only [Bool.and_eq_true, bne_iff_ne, ne_eq, beq_iff_eq] at hc
      obtain ⟨hname, hoff⟩ := hc
      -- one field's step
      have key : ∀ {x y : Value} {cs' ds' : List AV} {c e : AV} {q r : Bool}, cs = c :: cs' → ds = e :: ds' → (RelV W g A c x → RelV W g A e y → (Op.equalIn (d + 1) f.type x y).run P W = .ok q W) →
          aeqCells ks' cs' ds' = some r → xs[i]? = some x → ys[i]? = some y → RelV W g A c x → RelV W g A e y → (Op.eqFields (d + 1) xs ys (f :: fs)).run P W = .ok (q && r) W := by
        intro x y cs' ds' c e q r hcs hds heq hr hxi hyi hcx hey
        have hx' : RelL W g A cs' (xs.toList.drop (i + 1)) := by
          subst hcs
          refine ⟨by have := hx.1; simp at this ⊢; omega, fun j z v h1 h2 => hx.2 (j + 1) z v (by simpa using h1) ?_⟩
          rw [List.getElem?_drop] at h2 ⊢
          rw [← h2]; congr 1; omega
        have hy' : RelL W g A ds' (ys.toList.drop (i + 1)) := by
          subst hds
          refine ⟨by have := hy.1; simp at this ⊢; omega, fun j z v h1 h2 => hy.2 (j + 1) z v (by simpa using h1) ?_⟩
          rw [List.getElem?_drop] at h2 ⊢
          rw [← h2]; congr 1; omega
        have ih := eqFields_rel d hks hr hx' hy'
        simp only [Op.eqFields, hname, ne_eq, not_false_eq_true, if_true, hoff, Sem.run_bind, run_part_plain hk hxi, run_part_plain hk hyi, Result.andThen_ok, heq hcx hey]
        cases q
        · simp
        · simpa using ih
      have get : ∀ {c : AV} {cs' : List AV} {vs : Array Value}, RelL W g A (c :: cs') (vs.toList.drop i) → ∃ v, vs[i]? = some v ∧ RelV W g A c v := by
        intro c cs' vs hr
        have hlt : 0 < (vs.toList.drop i).length := by rw [← hr.1]; simp
        have hv : (vs.toList.drop i)[0]? = some ((vs.toList.drop i)[0]) := List.getElem?_eq_getElem hlt
        refine ⟨_, ?_, hr.2 0 c _ rfl hv⟩
        rw [List.getElem?_drop, Nat.add_zero] at hv
        rw [← Array.getElem?_toList]; exact hv
      unfold aeqCells at h
      split at h
      · rename_i heq; cases heq
      · rename_i ks2 bx cs' bz ds' heq
        cases heq
        rw [Option.map_eq_some_iff] at h
        obtain ⟨r, hr, rfl⟩ := h
        obtain ⟨x, hxi, hcx⟩ := get hx
        obtain ⟨y, hyi, hey⟩ := get hy
        refine key rfl rfl (fun h1 h2 => ?_) hr hxi hyi hcx hey
        rw [h1.dBool, h2.dBool]
        unfold plainT at hk
        split at hk <;> cases hk
        rename_i hu
        exact run_equalIn_bool W d _ _ _ hu
      · rename_i ks2 k1 nx cs' k2 ny ds' heq
        cases heq
        split at h
        · rename_i hkk
          subst hkk
          rw [Option.map_eq_some_iff] at h
          obtain ⟨r, hr, rfl⟩ := h
          obtain ⟨x, hxi, hcx⟩ := get hx
          obtain ⟨y, hyi, hey⟩ := get hy
          refine key rfl rfl (fun h1 h2 => ?_) hr hxi hyi hcx hey
          rw [h1.dInt, h2.dInt]
          unfold plainT at hk
          split at hk <;> cases hk
          rename_i hu
          exact run_equalIn_int W d _ _ _ _ _ hu
        · cases h
      · rename_i ks2 bx cs' bz ds' heq
        cases heq
        rw [Option.map_eq_some_iff] at h
        obtain ⟨r, hr, rfl⟩ := h
        obtain ⟨x, hxi, hcx⟩ := get hx
        obtain ⟨y, hyi, hey⟩ := get hy
        refine key rfl rfl (fun h1 h2 => ?_) hr hxi hyi hcx hey
        obtain ⟨u, rfl, hu1⟩ := h1.dStr
        obtain ⟨v, rfl, hv1⟩ := h2.dStr
        unfold plainT at hk
        split at hk <;> cases hk
        rename_i hu
        have := run_equalIn_string (P := P) W d _ u v hu
        rw [this, ByteArray.toList_eq, ByteArray.toList_eq, hu1, hv1]
      · cases h
    · cases hf

theorem bin_agg {op : BinOp} {t : TypeId} {xs ys : List AV} {us vs : Array Value} {z : AV} (hx : RelL W g A xs us.toList) (hy : RelL W g A ys vs.toList) (h : abin P op t (.agg xs) (.agg ys) = some z) (x y : Operand) :
    (eqGuard op t x y (.agg us) (.agg vs)).run P W = .ok () W ∧ ∃ v, (binOp op t (.agg us) (.agg vs)).run P W = .ok v W ∧ RelV W g A z v := by
  simp only [abin] at h
  cases hf : flatT P t with
  | none => simp [hf] at h
  | some ks =>
    have hf2 := hf
    unfold flatT at hf2
    split at hf2
    · rename_i fs hu
      split at hf2
      · rename_i hc
        simp only [Bool.and_eq_true, Bool.not_eq_true'] at hc
        have hfo : P.fieldsOf t = fs := by simp [Program.fieldsOf, hu]
        have hu' : P.underlying t = some (.struct (P.fieldsOf t)) := by rw [hfo]; exact hu
        have heq : ∀ {b : Bool}, aeqCells ks xs ys = some b → (Op.equalIn 10000 t (.agg us) (.agg vs)).run P W = .ok b W := by
          intro b hb
          rw [run_equalIn_agg W 9999 t us vs hu' hc.1, hfo]
          exact eqFields_rel 9998 hf2 hb (by simpa using hx) (by simpa using hy)
        refine ⟨run_eqGuard_agg W op t x y us vs hc.2, ?_⟩
        cases op <;> simp only [hf] at h <;> try (cases h; done)
        · rw [Option.map_eq_some_iff] at h
          obtain ⟨b, hb, rfl⟩ := h
          exact ⟨.bool b, by rw [run_eql_struct, heq hb]; rfl, .bool _⟩
        · rw [Option.map_eq_some_iff] at h
          obtain ⟨b, hb, rfl⟩ := h
          exact ⟨.bool (!b), by rw [run_neq_struct, heq hb]; rfl, .bool _⟩
      · cases hf2
    · cases hf2

theorem bin_rel {op : BinOp} {t : TypeId} {p q z : AV} {u v : Value} (hp : RelV W g A p u) (hq : RelV W g A q v) (h : abin P op t p q = some z) (x y : Operand) :
    (eqGuard op t x y u v).run P W = .ok () W ∧ ∃ r, (binOp op t u v).run P W = .ok r W ∧ RelV W g A z r := by
  unfold abin at h
  split at h
  · rename_i k a k' b
    split at h
    · rename_i hk
      subst hk
      rw [Option.map_eq_some_iff] at h
      obtain ⟨d, hd, rfl⟩ := h
      rw [hp.dInt, hq.dInt]
      refine ⟨eqGuard_plain _ _ _ _ _ _ (by simp) (by simp) W, ?_⟩
      obtain ⟨r, h1, h2⟩ := bin_int (P := P) (W := W) (g := g) (t := t) hd
      exact ⟨r, h1, .d _ _ h2⟩
    · cases h
  · rename_i a b
    rw [Option.map_eq_some_iff] at h
    obtain ⟨d, hd, rfl⟩ := h
    obtain ⟨u', rfl, hu⟩ := hp.dStr
    obtain ⟨v', rfl, hv⟩ := hq.dStr
    refine ⟨eqGuard_plain _ _ _ _ _ _ (by simp) (by simp) W, ?_⟩
    rw [← hu, ← hv] at hd
    obtain ⟨r, h1, h2⟩ := bin_str (P := P) (W := W) (g := g) (t := t) hd
    exact ⟨r, h1, .d _ _ h2⟩
  · rename_i a b
    split at h
    · rename_i ht
      rw [hp.dBool, hq.dBool]
      exact ⟨eqGuard_plain _ _ _ _ _ _ (by simp) (by simp) W, bin_bool ht h⟩
    · cases h
  · rename_i xs ys
    cases hp with
    | agg _ us hl1 r1 =>
      cases hq with
      | agg _ vs hl2 r2 =>
        exact bin_agg (xs := xs) (ys := ys) ⟨by simpa using hl1, by simpa using r1⟩ ⟨by simpa using hl2, by simpa using r2⟩ (by unfold abin; exact h) x y
  · cases h

end
end Go.Abs
