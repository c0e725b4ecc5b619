/- Storing into objects and owned slices; slice literals; new variables. -/
import Derived.Test.YtfoibmfocmjmdaaAbsAppend
import Derived.Great.BuildSlice
set_option linter.unusedVariables false
set_option linter.unusedSimpArgs false
set_option linter.all false
set_option linter.deprecated false
namespace Go.Abs

section
variable {P : Program} {W W' W0 : World} {g g' g0 : Gh} {A A' A0 : AHeap}

theorem adat_bufs {x : AV} {d : Dat} (h : adat A x = some (d, A')) : A'.objs = A.objs ∧ ∀ (tok : Nat) (b : ABuf), A.bufs[tok]? = some b → ∃ fz, A'.bufs[tok]? = some { b with frozen := fz } := by
  have same : A.objs = A.objs ∧ ∀ (tok : Nat) (b : ABuf), A.bufs[tok]? = some b → ∃ fz, A.bufs[tok]? = some { b with frozen := fz } := ⟨rfl, fun tok b hb => ⟨b.frozen, hb⟩⟩
  cases x <;> simp only [adat] at h <;> try (cases h; done)
  case d y => cases h; exact same
  case nilS => cases h; exact same
  case full rows => cases h; exact same
  case own tok len =>
    rw [Option.map_eq_some_iff] at h
    obtain ⟨rows, hrows, h⟩ := h
    cases h
    refine ⟨rfl, fun t b hb => ?_⟩
    rw [freeze_get]
    split
    · rw [hb]; exact ⟨_, rfl⟩
    · exact ⟨b.frozen, hb⟩

theorem adats_bufs : ∀ {xs : List AV} {ds : List Dat} {A A' : AHeap}, adats A xs = some (ds, A') → A'.objs = A.objs ∧ ∀ (tok : Nat) (b : ABuf), A.bufs[tok]? = some b → ∃ fz, A'.bufs[tok]? = some { b with frozen := fz }
  | [], ds, A, A', h => by cases h; exact ⟨rfl, fun tok b hb => ⟨b.frozen, hb⟩⟩
  | x :: xs, ds, A, A', h => by
    simp only [adats, Option.bind_eq_some_iff, Option.map_eq_some_iff] at h
    obtain ⟨⟨d, A1⟩, h1, ⟨ds', A2⟩, h2, h3⟩ := h
    cases h3
    obtain ⟨o1, b1⟩ := adat_bufs h1
    obtain ⟨o2, b2⟩ := adats_bufs h2
    refine ⟨o2.trans o1, fun tok b hb => ?_⟩
    obtain ⟨f1, e1⟩ := b1 tok b hb
    obtain ⟨f2, e2⟩ := b2 tok _ e1
    exact ⟨f2, e2⟩

theorem list_splice_get {α : Type} (vs vn : List α) (off k : Nat) (h : off + vn.length ≤ vs.length) : (vs.take off ++ vn ++ vs.drop (off + vn.length))[k]? = if off ≤ k ∧ k < off + vn.length then vn[k - off]? else vs[k]? := by
  by_cases h1 : k < off
  · rw [if_neg (by omega), List.append_assoc, List.getElem?_append_left (by simp; omega), List.getElem?_take, if_pos h1]
  · by_cases h2 : k < off + vn.length
    · rw [if_pos (by omega), List.append_assoc, List.getElem?_append_right (by simp; omega), List.getElem?_append_left (by simp; omega)]
      congr 1
      simp; omega
    · rw [if_neg (by omega), List.getElem?_append_right (by simp; omega), List.getElem?_drop]
      congr 1
      simp; omega

theorem idx_apart {i i' j sz off n : Nat} (hj : j < sz) (hfit : off + n ≤ sz) (h1 : i * sz + off ≤ i' * sz + j) (h2 : i' * sz + j < i * sz + off + n) : i' = i := by
  rcases Nat.lt_trichotomy i' i with h | h | h
  · have : (i' + 1) * sz ≤ i * sz := Nat.mul_le_mul_right _ h
    rw [Nat.add_mul, Nat.one_mul] at this
    omega
  · exact h
  · have : (i + 1) * sz ≤ i' * sz := Nat.mul_le_mul_right _ h
    rw [Nat.add_mul, Nat.one_mul] at this
    omega

set_option maxHeartbeats 1000000 in
theorem astore_rel (hw : WRel W g A) {t : TypeId} {n : Nat} {agg : Bool} (hk : kindT P t = some (n, agg)) {p v : AV} {up uv : Value} (hp : RelV W g A p up) (hv : RelV W g A v uv) (hn : v.cells.length = n)
    (h1 : v.cells.all AV.one = true) (h : astore A v.cells p = some A') : ∃ ad W' g', up = .pointer (some ad) ∧ (storeVar t ad uv).run P W = .ok () W' ∧ WRel W' g' A' ∧ Ev W g A W' g' A' := by
  have hc := cells_rel hv
  have huv : uv.cells.size = n := by have := hc.1; simp at this; omega
  have hone := oneCells_rel hc h1
  cases p <;> simp only [astore] at h <;> try (cases h; done)
  case ptr id off =>
    split at h
    case h_2 => cases h
    rename_i cs hcs
    rw [Option.map_eq_some_iff] at h
    obtain ⟨cs', hsp, h⟩ := h
    cases h
    cases hp with
    | ptr _ _ hid =>
    obtain ⟨ho, vs, T, hb, hrel⟩ := hw.obj id _ hcs
    have hg := asplice_get hsp
    have hl := hrel.1
    simp only [Array.length_toList] at hl
    have hrun := run_storeVar_at (W := W) hk (o := off) hb huv (by omega) hone
    have hloc := setRow_local (W := W) (g.ob id) (vs.toList.take off ++ uv.cells.toList ++ vs.toList.drop (off + n)).toArray
    have hnr := spliceV_rel hrel hc hsp
    rw [Array.length_toList, huv] at hnr
    obtain ⟨w1, w2⟩ := hw.setObj (W' := W.setRow (g.ob id) (vs.toList.take off ++ uv.cells.toList ++ vs.toList.drop (off + n)).toArray) (g' := g) (A' := { A with objs := A.objs.set id (.cells cs') }) (id := id) (o' := .cells cs')
      rfl (fun i hi => by rw [List.getElem?_set_ne (fun e => hi e.symm)]) (by simp [hid]) (by simp) hloc.rest (Nat.le_of_eq hloc.size.symm) (fun blk _ h2 => hloc.heap blk h2) rfl rfl (fun _ _ => rfl) (fun _ _ => rfl) ho (by rw [hloc.size]; exact hw.lt _ _ ho)
      (fun blk o h1 h2 => by have := hw.lt _ _ h2; omega) (fun ev => ⟨_, T, setRow_heap W _ vs _ T (0, 0) hb, by simpa using ev.relL hnr⟩)
    exact ⟨_, _, g, rfl, hrun, w1, w2⟩
  case eptr tok len i off =>
    split at h
    case h_2 => cases h
    rename_i b hb
    split at h
    case isFalse => cases h
    rename_i hcond
    obtain ⟨hlen, hfz⟩ := hcond
    split at h
    case h_2 => cases h
    rename_i row hrow
    rw [Option.bind_eq_some_iff] at h
    obtain ⟨⟨ds, A1⟩, had, h⟩ := h
    simp only at h
    split at h
    case isFalse => cases h
    rename_i hfit
    split at h
    case h_2 => cases h
    rename_i b' hb'
    split at h
    case isFalse => cases h
    rename_i hfz'
    cases h
    obtain ⟨g1, hds, w1, e1⟩ := adats_rel hw hc had
    obtain ⟨fz, hb2⟩ := (adats_bufs had).2 tok b hb
    rw [hb'] at hb2
    cases hb2
    have hp1 := e1.relV hp
    generalize hup : up = upv at hp1
    cases hp1 with
    | eptr _ _ _ _ ad ht he =>
    obtain ⟨_, he2⟩ := he _ hb'
    obtain ⟨blk, cap, hbf, rfl⟩ := he2 hlen
    obtain ⟨blk', cap', vs, k1, k2, k3, k4, k5, k6, k7, k8, k9, k10⟩ := (w1.buf tok _ hb').ex
    rw [hbf] at k1
    cases k1
    simp only at k3 k4 k5 k7 k8 k9 k10 hfz'
    have hil := lt_of_get hrow
    have hrl := k8 i row hrow
    have hdl : ds.length = n := by have := hds.1; simp at this; omega
    have hend : i * b.sz + b.sz ≤ vs.size := by
      rw [k4]
      calc i * b.sz + b.sz = (i + 1) * b.sz := by rw [Nat.add_mul, Nat.one_mul]
        _ ≤ cap * b.sz := Nat.mul_le_mul_right _ (by omega)
    have hrun := run_storeVar_at (W := W) hk (o := i * b.sz + off) k3 huv (by omega) hone
    have hloc := setRow_local (W := W) blk (vs.toList.take (i * b.sz + off) ++ uv.cells.toList ++ vs.toList.drop (i * b.sz + off + n)).toArray
    have hget : ∀ k : Nat, (vs.toList.take (i * b.sz + off) ++ uv.cells.toList ++ vs.toList.drop (i * b.sz + off + n)).toArray[k]? = if i * b.sz + off ≤ k ∧ k < i * b.sz + off + n then uv.cells[k - (i * b.sz + off)]? else vs[k]? := by
      intro k
      have := list_splice_get vs.toList uv.cells.toList (i * b.sz + off) k (by simp; omega)
      simp only [Array.length_toList, huv, Array.getElem?_toList] at this
      rw [List.getElem?_toArray]
      exact this
    have htl := lt_of_get hb'
    obtain ⟨w2, e2⟩ := w1.setBuf (W' := W.setRow blk (vs.toList.take (i * b.sz + off) ++ uv.cells.toList ++ vs.toList.drop (i * b.sz + off + n)).toArray) (g' := g1)
      (A' := { A1 with bufs := A1.bufs.set tok { ({ b with frozen := fz } : ABuf) with rows := b.rows.set i (row.take off ++ ds ++ row.drop (off + ds.length)) } }) (tok := tok)
      (b' := { ({ b with frozen := fz } : ABuf) with rows := b.rows.set i (row.take off ++ ds ++ row.drop (off + ds.length)) }) rfl (fun t ht => by rw [List.getElem?_set_ne (fun e => ht e.symm)]) (by simp [htl])
      (fun b2 hb2 => by rw [hb'] at hb2; cases hb2; exact ⟨rfl, by simp, fun _ => rfl⟩) hloc.rest (Nat.le_of_eq hloc.size.symm) (fun blk2 _ h2 => hloc.heap blk2 fun e => h2 (e ▸ k2)) rfl rfl (fun _ _ => rfl) (fun _ _ => rfl)
      (fun blk2 o h1 h2 => by have := w1.lt _ _ h2; omega)
      (fun blk2 k q1 q2 => by
        by_cases hbb : blk2 = blk
        · subst hbb
          have hkk := k10 k q2
          have hle : fz * b.sz ≤ i * b.sz := Nat.mul_le_mul_right _ hfz'
          rw [cell_setRow_same W blk2 k vs _ b.e (0, 0) k3, cell_of_row W blk2 k vs b.e (0, 0) k3, hget, if_neg (by omega)]
        · exact cell_same (hloc.heap _ hbb))
      (fun ev => by
        refine ⟨blk, cap, _, by simpa using hbf, k2, setRow_heap W blk vs _ b.e (0, 0) k3, ?_, by simpa using k5, k6, by simpa using k7, fun q r hq => ?_, fun q j r c q1 q2 => ?_, k10⟩
        · rw [List.size_toArray]
          simp only [List.length_append, List.length_take, List.length_drop, Array.length_toList, huv]
          omega
        · simp only [List.getElem?_set] at hq
          split at hq
          · cases hq; simp; omega
          · exact k8 q r hq
        · simp only [hget]
          simp only [List.getElem?_set] at q1
          split at q1
          · rename_i hq
            subst hq
            · cases q1
              rw [list_splice_get row ds off j hfit] at q2
              have hjl : j < row.length := by
                split at q2
                · have := lt_of_get q2; omega
                · exact lt_of_get q2
              split at q2
              · rename_i hj
                rw [if_pos (by omega)]
                have hlt : j - off < uv.cells.toList.length := by simp; omega
                refine ⟨uv.cells.toList[j - off], ?_, ev.relD (hds.2 (j - off) c _ q2 (List.getElem?_eq_getElem hlt))⟩
                have hidx : i * b.sz + j - (i * b.sz + off) = j - off := by omega
                rw [hidx, ← Array.getElem?_toList]
                exact List.getElem?_eq_getElem hlt
              · rename_i hj
                rw [if_neg (by omega)]
                obtain ⟨v', hv', hr'⟩ := k9 i j row c hrow q2
                exact ⟨v', hv', ev.relD hr'⟩
          · rename_i hne
            obtain ⟨v', hv', hr'⟩ := k9 q j r c q1 q2
            have hjl := lt_of_get q2
            rw [k8 q r q1] at hjl
            rw [if_neg (fun hh => hne (idx_apart hjl (by omega) hh.1 hh.2).symm)]
            exact ⟨v', hv', ev.relD hr'⟩)
    exact ⟨_, _, g1, rfl, hrun, w2, e1.trans e2⟩

end
end Go.Abs
