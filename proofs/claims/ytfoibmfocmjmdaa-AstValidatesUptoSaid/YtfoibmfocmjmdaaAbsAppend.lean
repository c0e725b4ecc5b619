/- Slices that grow, and slice literals. -/
import Derived.Test.YtfoibmfocmjmdaaAbsMut
set_option linter.unusedVariables false
set_option linter.unusedSimpArgs false
set_option linter.all false
set_option linter.deprecated false
namespace Go.Abs

section
variable {P : Program} {W W' W0 : World} {g g' g0 : Gh} {A A' A0 : AHeap}

theorem RelD.one {S : Nat → Nat → Prop} {d : Dat} {v : Value} (h : RelD W S d v) : v.oneCell' = true := by cases h <;> rfl

/-- the rows, cell after cell, as values that stand from an address on -/
structure RowVals (W : World) (S : Nat → Nat → Prop) (rows : List (List Dat)) (sz : Nat) (a : Addr) (news : List Value) : Prop where
  len : news.length = rows.length * sz
  at' : ∀ j v, news[j]? = some v → W.cell? (a.add j) = some v
  one : ∀ v ∈ news, v.oneCell' = true
  rel : ∀ (i j : Nat) (row : List Dat) (c : Dat), rows[i]? = some row → row[j]? = some c → ∃ v, news[i * sz + j]? = some v ∧ RelD W S c v

theorem idx_lt {i n j sz : Nat} (hi : i < n) (hj : j < sz) : i * sz + j < n * sz := by
  calc i * sz + j < i * sz + sz := by omega
    _ = (i + 1) * sz := by rw [Nat.add_mul, Nat.one_mul]
    _ ≤ n * sz := Nat.mul_le_mul_right _ hi

theorem rows_at {rows : List (List Dat)} {sz k : Nat} (hsz : 0 < sz) (hlen : ∀ (i : Nat) (row : List Dat), rows[i]? = some row → row.length = sz) (hk : k < rows.length * sz) :
    ∃ row c, rows[k / sz]? = some row ∧ row[k % sz]? = some c := by
  have hi : k / sz < rows.length := (Nat.div_lt_iff_lt_mul hsz).2 hk
  have h1 : rows[k / sz]? = some (rows[k / sz]) := List.getElem?_eq_getElem hi
  have hl := hlen _ _ h1
  have hj : k % sz < (rows[k / sz]).length := by rw [hl]; exact Nat.mod_lt _ hsz
  exact ⟨_, _, h1, List.getElem?_eq_getElem hj⟩

theorem rowVals_of_data {S : Nat → Nat → Prop} {rows : List (List Dat)} {a : Addr} {n cap sz : Nat} (hsz : 0 < sz) (h : RelD W S (.slice rows) (.slice (some a) n cap)) (hall : rows.all (fun r => r.length == sz) = true) :
    n = rows.length ∧ ∃ news, RowVals W S rows sz a news := by
  have hlen : ∀ (i : Nat) (row : List Dat), rows[i]? = some row → row.length = sz := by
    intro i row hi
    have := List.all_eq_true.1 hall row (List.mem_of_getElem? hi)
    simpa using this
  generalize hd : Dat.slice rows = d at h
  generalize hv : Value.slice (some a) n cap = v at h
  cases h with
  | bool b => cases hd
  | int k n => cases hd
  | str s => cases hd
  | empty a' cap' =>
    cases hd; cases hv
    exact ⟨rfl, [], by simp, fun j v h => by simp at h, fun v h => by simp at h, fun i j row c h => by simp at h⟩
  | slice rows' b o cap' sz' val hcap hlen' hcell hval =>
    cases hd; cases hv
    refine ⟨rfl, ?_⟩
    have hszz : ∀ (i : Nat) (row : List Dat), rows[i]? = some row → sz' = sz := fun i row hi => by rw [← hlen i row hi, hlen' i row hi]
    refine ⟨(List.range (rows.length * sz)).map fun k => val (k / sz) (k % sz), by simp, fun j v hj => ?_, fun v hv => ?_, fun i j row c h1 h2 => ?_⟩
    · rw [List.getElem?_map, Option.map_eq_some_iff] at hj
      obtain ⟨k, hk, rfl⟩ := hj
      obtain ⟨hk1, hk2⟩ := List.getElem?_eq_some_iff.1 hk
      simp at hk1 hk2
      subst hk2
      obtain ⟨row, c, e1, e2⟩ := rows_at hsz hlen hk1
      have hc := (hcell _ _ row c e1 e2).2
      rw [hszz _ row e1] at hc
      rw [addr_add]
      have : o + j / sz * sz + j % sz = o + j := by have := Nat.div_add_mod' j sz; omega
      rw [this] at hc
      exact hc
    · obtain ⟨k, hk, rfl⟩ := List.mem_map.1 hv
      obtain ⟨row, c, e1, e2⟩ := rows_at hsz hlen (List.mem_range.1 hk)
      exact (hval _ _ row c e1 e2).one
    · have hi := lt_of_get h1
      have hj := lt_of_get h2
      rw [hlen i row h1] at hj
      refine ⟨val i j, ?_, hval i j row c h1 h2⟩
      rw [List.getElem?_map, List.getElem?_range (idx_lt hi hj)]
      have e1 : (i * sz + j) / sz = i := by rw [Nat.mul_comm, Nat.mul_add_div hsz, Nat.div_eq_of_lt hj, Nat.add_zero]
      have e2 : (i * sz + j) % sz = j := by rw [Nat.mul_comm, Nat.mul_add_mod, Nat.mod_eq_of_lt hj]
      simp [e1, e2]

theorem rowVals_of_buf {tok : Nat} {b : ABuf} (h : BufAt W g tok b) (hsz : 0 < b.sz) {blk cap n : Nat} (hb : g.bf tok = .slice (some ⟨blk, 0, none⟩) n cap) :
    ∃ vs, W.heap[blk]? = some (.cells vs b.e (0, 0)) ∧ vs.size = cap * b.sz ∧ b.rows.length ≤ cap ∧ n = b.rows.length ∧ RowVals W g.S b.rows b.sz ⟨blk, 0, none⟩ (vs.toList.take (b.rows.length * b.sz)) := by
  obtain ⟨blk', cap', vs, h1, h2, h3, h4, h5, h6, h7, h8, h9, h10⟩ := h.ex
  rw [hb] at h1
  cases h1
  have hle : b.rows.length * b.sz ≤ vs.size := by rw [h4]; exact Nat.mul_le_mul_right _ h5
  refine ⟨vs, h3, h4, h5, rfl, by simp [hle], fun j v hj => ?_, fun v hv => ?_, fun i j row c e1 e2 => ?_⟩
  · rw [List.getElem?_take] at hj
    split at hj
    · rw [addr_add, Nat.zero_add, cell_of_row W blk _ vs b.e (0, 0) h3, ← Array.getElem?_toList]
      exact hj
    · cases hj
  · obtain ⟨k, hk⟩ := List.getElem?_of_mem hv
    rw [List.getElem?_take] at hk
    split at hk
    · rename_i hlt
      obtain ⟨row, c, e1, e2⟩ := rows_at hsz h8 hlt
      obtain ⟨v', hv', hr⟩ := h9 _ _ row c e1 e2
      have : k / b.sz * b.sz + k % b.sz = k := Nat.div_add_mod' k b.sz
      rw [this, ← Array.getElem?_toList, hk] at hv'
      cases hv'
      exact hr.one
    · cases hk
  · have hi := lt_of_get e1
    have hj := lt_of_get e2
    rw [h8 i row e1] at hj
    obtain ⟨v, hv, hr⟩ := h9 i j row c e1 e2
    refine ⟨v, ?_, hr⟩
    rw [List.getElem?_take, if_pos (idx_lt hi hj), Array.getElem?_toList]
    exact hv

/-- the appended rows -/
theorem src_vals (hw : WRel W g A) {y : AV} {u : Value} (hr : RelV W g A y u) {src : List (List Dat)} (h : arows A y = some src) {sz : Nat} (hsz : 0 < sz) (hall : src.all (fun r => r.length == sz) = true) :
    ∃ oa c, u = .slice oa src.length c ∧ (src ≠ [] → ∃ a news, oa = some a ∧ RowVals W g.S src sz a news) := by
  have data : ∀ {v : Value}, RelD W g.S (.slice src) v → ∃ oa c, v = .slice oa src.length c ∧ (src ≠ [] → ∃ a news, oa = some a ∧ RowVals W g.S src sz a news) := by
    intro v hd
    generalize hd' : Dat.slice src = d at hd
    cases hd with
    | empty a cap => cases hd'; exact ⟨a, cap, rfl, fun h => absurd rfl h⟩
    | slice rows b o cap sz' val hcap hlen hcell hval =>
      cases hd'
      refine ⟨_, cap, rfl, fun _ => ⟨⟨b, o, none⟩, ?_⟩⟩
      obtain ⟨_, news, hn⟩ := rowVals_of_data hsz (.slice src b o cap sz' val hcap hlen hcell hval) hall
      exact ⟨news, rfl, hn⟩
    | _ => cases hd'
  cases y <;> simp only [arows] at h <;> try (cases h; done)
  case d x =>
    cases x <;> simp only [arows] at h <;> try (cases h; done)
    cases h
    cases hr with
    | d _ _ hd => exact data hd
  case nilS => cases h; cases hr; exact ⟨none, 0, rfl, fun h => absurd rfl h⟩
  case full rows =>
    cases h
    cases hr with
    | full _ a hd => exact data hd
  case own tok len =>
    obtain ⟨b, hb, hl, rfl⟩ := arows_own h
    obtain ⟨blk, cap, rfl, hbf⟩ := own_bf hw hr hb hl
    refine ⟨_, cap, rfl, fun hne => ⟨⟨blk, 0, none⟩, ?_⟩⟩
    have hbs : b.sz = sz := by
      obtain ⟨blk', cap', vs, h1, h2, h3, h4, h5, h6, h7, h8, h9, h10⟩ := (hw.buf tok b hb).ex
      cases hrows : b.rows with
      | nil => exact absurd hrows hne
      | cons r rs =>
        have := h8 0 r (by rw [hrows]; rfl)
        have h2 := List.all_eq_true.1 hall r (by rw [hrows]; simp)
        simp at h2
        omega
    obtain ⟨vs, _, _, _, _, hv⟩ := rowVals_of_buf (hw.buf tok b hb) (by omega) hbf
    rw [hbs] at hv
    exact ⟨_, rfl, hv⟩

theorem run_append_none (t ty e : TypeId) {n : Nat} {agg : Bool} (ht : P.underlying t = some (.slice e)) (hk : kindT P e = some (n, agg)) (s : Option Addr) (len cap : Nat) (hc : len ≤ cap) (oa : Option Addr) (c : Nat) :
    (Builtin.append_ #[t, t] ty #[.slice s len cap, .slice oa 0 c]).run P W = .ok (.slice s len cap) W := by
  have hf : (Builtin.firstCells n 0 (.slice oa 0 c)).run P W = .ok #[] W := by
    cases oa <;> simp [Builtin.firstCells, loadCells, loadCellsFrom]
  cases s <;> simp [Builtin.append_, run_underlying ht, run_sizeOf hk, Builtin.lenOf, hc, hf, storeCells]

theorem rowVals_append {S : Nat → Nat → Prop} {r1 r2 : List (List Dat)} {sz : Nat} {a a' : Addr} {n1 n2 : List Value} (h1 : RowVals W S r1 sz a n1) (h2 : RowVals W S r2 sz a' n2) :
    (n1 ++ n2).length = (r1 ++ r2).length * sz ∧ ∀ (i j : Nat) (row : List Dat) (c : Dat), (r1 ++ r2)[i]? = some row → row[j]? = some c → row.length = sz → ∃ v, (n1 ++ n2)[i * sz + j]? = some v ∧ RelD W S c v := by
  refine ⟨by simp [h1.len, h2.len, Nat.add_mul], fun i j row c e1 e2 e3 => ?_⟩
  have hj := lt_of_get e2
  rw [e3] at hj
  by_cases hi : i < r1.length
  · rw [List.getElem?_append_left hi] at e1
    obtain ⟨v, hv, hr⟩ := h1.rel i j row c e1 e2
    exact ⟨v, by rw [List.getElem?_append_left (by rw [h1.len]; exact idx_lt hi hj)]; exact hv, hr⟩
  · rw [List.getElem?_append_right (by omega)] at e1
    obtain ⟨v, hv, hr⟩ := h2.rel _ j row c e1 e2
    have hge : r1.length * sz ≤ i * sz := Nat.mul_le_mul_right _ (by omega)
    refine ⟨v, ?_, hr⟩
    rw [List.getElem?_append_right (by rw [h1.len]; omega), h1.len]
    have : i * sz + j - r1.length * sz = (i - r1.length) * sz + j := by rw [Nat.sub_mul]; omega
    rw [this]
    exact hv

/-- a buffer that lies in a new block -/
def Gh.newBuf (g : Gh) (tok blk : Nat) (v : Value) : Gh := { g with bf := fun t => if t = tok then v else g.bf t, own := fun b => if b = blk then some (.buf tok) else g.own b }

theorem drewAlloc (W : World) (c : Array Value) (t : TypeId) : Rest W (W.drew.alloc (.cells c t)) :=
  ⟨rfl, rfl, fun a => (RowKit.frozen?_alloc_cells W.drew c t a)⟩

theorem WRel.newBlock (hw : WRel W g A) {tok : Nat} {b' : ABuf} {vs : Array Value} {cap : Nat} (hbufs : ∀ t, t ≠ tok → A'.bufs[t]? = A.bufs[t]?) (hobjs : A'.objs = A.objs) (hat : A'.bufs[tok]? = some b')
    (hold : ∀ b, A.bufs[tok]? = some b → b'.sz = b.sz ∧ b.rows.length < b'.rows.length)
    (hcap : b'.rows.length ≤ cap) (hm : cap ≤ maxLen) (hsz : vs.size = cap * b'.sz) (hfz : b'.frozen ≤ b'.rows.length)
    (hlen : ∀ (i : Nat) (row : List Dat), b'.rows[i]? = some row → row.length = b'.sz)
    (hrel : ∀ (i j : Nat) (row : List Dat) (c : Dat), b'.rows[i]? = some row → row[j]? = some c → ∃ v, vs[i * b'.sz + j]? = some v ∧ RelD W g.S c v) (hW : W'.heap = (W.alloc (.cells vs b'.e)).heap) (hrest : Rest W W') :
    WRel W' (g.newBuf tok W.heap.size (.slice (some ⟨W.heap.size, 0, none⟩) b'.rows.length cap)) A' ∧
    Ev W g A W' (g.newBuf tok W.heap.size (.slice (some ⟨W.heap.size, 0, none⟩) b'.rows.length cap)) A' ∧
    RelV W' (g.newBuf tok W.heap.size (.slice (some ⟨W.heap.size, 0, none⟩) b'.rows.length cap)) A' (.own tok b'.rows.length) (.slice (some ⟨W.heap.size, 0, none⟩) b'.rows.length cap) := by
  have hsize : W'.heap.size = W.heap.size + 1 := by rw [hW]; simp
  have h := hw.setBuf (W' := W') (g' := g.newBuf tok W.heap.size (.slice (some ⟨W.heap.size, 0, none⟩) b'.rows.length cap)) (A' := A') (tok := tok) (b' := b') hobjs hbufs hat
    (fun b hb => ⟨(hold b hb).1, Nat.le_of_lt (hold b hb).2, fun e => by have := (hold b hb).2; omega⟩) hrest (by omega) (fun blk hb _ => by rw [hW]; exact heap_alloc_get hb) rfl rfl
    (fun t ht => by simp [Gh.newBuf, ht]) (fun blk hb => by simp [Gh.newBuf]; omega) (fun blk o h1 h2 => by
      simp only [Gh.newBuf] at h2
      split at h2
      · rename_i hb; cases h2; exact ⟨rfl, by omega⟩
      · have := hw.lt _ _ h2; omega) (fun blk k h1 _ => cell_same (by rw [hW]; exact heap_alloc_get (hw.lt _ _ h1))) (fun e => ?_)
  · refine ⟨h.1, h.2, .own tok _ _ _ (lt_of_get hat) fun b hb => ?_⟩
    rw [hat] at hb
    cases hb
    exact ⟨Nat.le_refl _, fun _ => by simp [Gh.newBuf]⟩
  · refine ⟨W.heap.size, cap, vs, by simp [Gh.newBuf], by simp [Gh.newBuf], by rw [hW]; exact heap_alloc_new W _, hsz, hcap, hm, hfz, hlen, fun i j row c e1 e2 => ?_, fun k hk => ?_⟩
    · obtain ⟨v, hv, hr⟩ := hrel i j row c e1 e2
      exact ⟨v, hv, e.relD hr⟩
    · have := hw.stab _ _ hk
      omega

theorem kind_info {e : TypeId} {sz : Nat} {agg : Bool} (hk : kindT P e = some (sz, agg)) {z : AV} (hz : zeroT P e = some z) (hzl : z.cells.length = sz) :
    ∃ i v, P.info? e = some i ∧ i.size = sz ∧ i.zero = some v ∧ v.cells.size = sz ∧ i.bytes = P.bytesOf e ∧ aval v = some z := by
  obtain ⟨i, d, hi, hd, hs, _⟩ := kindT_some hk
  simp only [zeroT, hi, Option.bind_some, Option.bind_eq_some_iff] at hz
  obtain ⟨v, hv, hz⟩ := hz
  refine ⟨i, v, hi, hs, hv, ?_, by simp [Program.bytesOf, hi], hz⟩
  have := (cells_rel (aval_rel (W := default) (g := ⟨fun _ _ => False, fun _ => 0, fun _ => undef, fun _ => none⟩) (A := ⟨[], []⟩) hz)).1
  simp at this
  omega

theorem set_same {α : Type} {l : List α} {k : Nat} {x : α} (h : l[k]? = some x) : l.set k x = l := by
  apply List.ext_getElem?
  intro q
  rw [List.getElem?_set]
  split
  · rename_i hk
    subst hk
    rw [if_pos (lt_of_get h), h]
  · rfl

set_option maxHeartbeats 2000000 in
theorem append_rel (hw : WRel W g A) {t ty e : TypeId} {sz : Nat} {agg : Bool} (ht : P.underlying t = some (.slice e)) (hk : kindT P e = some (sz, agg)) {x y z : AV} {u u2 : Value} (hx : RelV W g A x u) (hy : RelV W g A y u2)
    {src : List (List Dat)} (hs : arows A y = some src) (h : aappend P e sz A x src = some (z, A')) :
    ∃ v W' g', (Builtin.append_ #[t, t] ty #[u, u2]).run P W = .ok v W' ∧ RelV W' g' A' z v ∧ WRel W' g' A' ∧ Ev W g A W' g' A' := by
  unfold aappend at h
  split at h
  case isFalse => cases h
  rename_i hc
  obtain ⟨hroom, hall⟩ := hc
  simp only [aroomT, Bool.and_eq_true, decide_eq_true_eq] at hroom
  obtain ⟨⟨hsz, hbytes⟩, hz⟩ := hroom
  split at hz
  case h_2 => cases hz
  rename_i zv hzt
  obtain ⟨i, zc, hi, his, hiz, hzs, hib, _⟩ := kind_info hk hzt (by simpa using hz)
  subst his
  obtain ⟨oa, c, rfl, hsrc⟩ := src_vals hw hy hs hsz hall
  have hlenS : ∀ (k : Nat) (row : List Dat), src[k]? = some row → row.length = i.size := by
    intro k row hk'
    have := List.all_eq_true.1 hall row (List.mem_of_getElem? hk')
    simpa using this
  -- the new block
  have make : ∀ (n old : Nat) (xs ys : List Value), old < n → n ≤ 4194304 → (xs ++ ys).length = n * i.size →
      grownCap W n old e ≤ maxLen ∧ n ≤ grownCap W n old e ∧ (xs.toArray ++ ys.toArray ++ Builtin.zeroCells zc.cells (grownCap W n old e - n)).size = grownCap W n old e * i.size ∧
      (∀ (k : Nat) (v : Value), (xs ++ ys)[k]? = some v → (xs.toArray ++ ys.toArray ++ Builtin.zeroCells zc.cells (grownCap W n old e - n))[k]? = some v) := by
    intro n old xs ys h1 h2 h3
    have hge := grownCap_ge W n old e
    refine ⟨grownCap_le_maxLen W n old e (by simp only [maxLen]; omega), hge, ?_, fun k v hkv => ?_⟩
    · simp only [Array.size_append, List.size_toArray, size_zeroCells, hzs]
      rw [← List.length_append, h3, ← Nat.add_mul]
      congr 1
      omega
    · have hkl := lt_of_get hkv
      rw [← Array.getElem?_toList]
      simp only [Array.toList_append]
      rw [List.getElem?_append_left hkl]
      exact hkv
  have fits : ∀ n old, old < n → n ≤ 4194304 → Builtin.nextslicecap n old * i.bytes ≤ 281474976710656 := by
    intro n old h1 h2
    refine growslice_fits h1 ?_
    rw [hib]
    calc n * P.bytesOf e ≤ 4194304 * 1048576 := Nat.mul_le_mul h2 hbytes
      _ ≤ 140737488355328 := by omega
  split at h
  · -- onto nil
    cases hx
    split at h
    · rename_i hnil
      cases h
      subst hnil
      exact ⟨_, W, g, run_append_none t ty e ht hk none 0 0 (Nat.le_refl _) oa c, .nilS, hw, .refl _ _ _⟩
    · rename_i hne
      split at h
      case isFalse => cases h
      rename_i hle
      cases h
      obtain ⟨a, news, rfl, hv⟩ := hsrc hne
      have hpos : 0 < src.length := by cases src with | nil => exact absurd rfl hne | cons _ _ => simp
      obtain ⟨m1, m2, m3, m4⟩ := make src.length 0 [] news hpos hle (by simpa using hv.len)
      have hr := run_append_nil (P := P) W t ty e i zc ht hi hiz a src.length c news hv.len hv.at' hpos (by omega) (by
        rw [hib]
        calc src.length * P.bytesOf e ≤ 4194304 * 1048576 := Nat.mul_le_mul hle hbytes
          _ ≤ 281474976710656 := by omega)
      obtain ⟨w1, w2, w3⟩ := hw.newBlock (A' := { A with bufs := A.bufs ++ [⟨e, i.size, src, 0⟩] }) (W' := W.drew.alloc (.cells (news.toArray ++ Builtin.zeroCells zc.cells (grownCap W src.length 0 e - src.length)) e)) (tok := A.bufs.length) (b' := ⟨e, i.size, src, 0⟩)
        (vs := (news.toArray ++ Builtin.zeroCells zc.cells (grownCap W src.length 0 e - src.length))) (cap := grownCap W src.length 0 e)
        (fun t ht => by
          rcases Nat.lt_or_ge t A.bufs.length with h | h
          · simp [List.getElem?_append_left h]
          · rw [List.getElem?_eq_none (by simp; omega), List.getElem?_eq_none h]) rfl (by simp) (fun b hb => by simp at hb) m2 m1 (by simpa using m3) (Nat.zero_le _) hlenS
        (fun k j row c' e1 e2 => by
          obtain ⟨v, hv1, hv2⟩ := hv.rel k j row c' e1 e2
          exact ⟨v, by simpa using m4 _ v (by simpa using hv1), hv2⟩) rfl (drewAlloc W _ _)
      exact ⟨_, _, _, hr, w3, w1, w2⟩
  · -- onto a full slice
    rename_i rows
    cases hx with
    | full _ a0 hd =>
    split at h
    · rename_i hnil
      cases h
      subst hnil
      exact ⟨_, W, g, run_append_none t ty e ht hk _ _ _ (Nat.le_refl _) oa c, .full rows a0 hd, hw, .refl _ _ _⟩
    · rename_i hne
      split at h
      case isFalse => cases h
      rename_i hle
      obtain ⟨hle, hrall⟩ := hle
      cases h
      obtain ⟨a, news, rfl, hv⟩ := hsrc hne
      obtain ⟨_, olds, ho⟩ := rowVals_of_data hsz hd hrall
      have hpos : 0 < src.length := by cases src with | nil => exact absurd rfl hne | cons _ _ => simp
      obtain ⟨l1, l2⟩ := rowVals_append ho hv
      obtain ⟨m1, m2, m3, m4⟩ := make (rows.length + src.length) rows.length olds news (by omega) hle (by simpa using l1)
      have hr := run_append_grow (P := P) W t ty e i zc ht hi hiz a0 rows.length rows.length olds ho.len ho.at' a src.length c news hv.len hv.at' (by omega) (by omega) (fits _ _ (by omega) hle)
      have hlenR : ∀ (k : Nat) (row : List Dat), rows[k]? = some row → row.length = i.size := by
        intro k row hk'
        have := List.all_eq_true.1 hrall row (List.mem_of_getElem? hk')
        simpa using this
      have hlen2 : ∀ (k : Nat) (row : List Dat), (rows ++ src)[k]? = some row → row.length = i.size := by
        intro k row hk'
        rcases List.mem_append.1 (List.mem_of_getElem? hk') with h | h
        · obtain ⟨q, hq⟩ := List.getElem?_of_mem h; exact hlenR q row hq
        · obtain ⟨q, hq⟩ := List.getElem?_of_mem h; exact hlenS q row hq
      obtain ⟨w1, w2, w3⟩ := hw.newBlock (A' := { A with bufs := A.bufs ++ [⟨e, i.size, rows ++ src, 0⟩] }) (W' := W.drew.alloc (.cells (olds.toArray ++ news.toArray ++ Builtin.zeroCells zc.cells (grownCap W (rows.length + src.length) rows.length e - (rows.length + src.length))) e)) (tok := A.bufs.length) (b' := ⟨e, i.size, rows ++ src, 0⟩)
        (vs := (olds.toArray ++ news.toArray ++ Builtin.zeroCells zc.cells (grownCap W (rows.length + src.length) rows.length e - (rows.length + src.length)))) (cap := grownCap W (rows.length + src.length) rows.length e)
        (fun t ht => by
          rcases Nat.lt_or_ge t A.bufs.length with h | h
          · simp [List.getElem?_append_left h]
          · rw [List.getElem?_eq_none (by simp; omega), List.getElem?_eq_none h]) rfl (by simp) (fun b hb => by simp at hb) (by simpa using m2) m1 m3 (Nat.zero_le _) hlen2
        (fun k j row c' e1 e2 => by
          obtain ⟨v, hv1, hv2⟩ := l2 k j row c' e1 e2 (hlen2 k row e1)
          exact ⟨v, m4 _ v hv1, hv2⟩) rfl (drewAlloc W _ _)
      simp only [List.length_append] at w3 w1 w2
      exact ⟨_, _, _, hr, w3, w1, w2⟩
  · -- onto an owned slice
    rename_i tok len
    split at h
    case h_2 => cases h
    rename_i b hb
    split at h
    case isFalse => cases h
    rename_i hcond
    obtain ⟨hl, hbsz, hbe, hle⟩ := hcond
    cases h
    subst hbe
    obtain ⟨blk, cap, rfl, hbf⟩ := own_bf hw hx hb hl
    have hbuf := hw.buf tok b hb
    by_cases hne : src = []
    · subst hne
      have hset : ({ A with bufs := A.bufs.set tok { b with rows := b.rows ++ [] } } : AHeap) = A := by
        have h1 : ({ b with rows := b.rows ++ [] } : ABuf) = b := by simp
        rw [h1]
        have h2 : A.bufs.set tok b = A.bufs := set_same hb
        rw [h2]
      obtain ⟨vs, _, _, hcap, _, _⟩ := rowVals_of_buf hbuf (by omega) hbf
      refine ⟨_, W, g, run_append_none t ty b.e ht hk _ _ _ hcap oa c, ?_, by rw [hset]; exact hw, by rw [hset]; exact .refl _ _ _⟩
      rw [hset]
      simpa [← hl] using hx
    · obtain ⟨a, news, rfl, hv⟩ := hsrc hne
      obtain ⟨vs, g1, g2, g3, _, ho⟩ := rowVals_of_buf hbuf (by omega) hbf
      rw [hbsz] at ho g2
      have hpos : 0 < src.length := by cases src with | nil => exact absurd rfl hne | cons _ _ => simp
      obtain ⟨l1, l2⟩ := rowVals_append ho hv
      obtain ⟨blk', cap', vs', k1, k2, k3, k4, k5, k6, k7, k8, k9, k10⟩ := hbuf.ex
      rw [hbf] at k1
      cases k1
      rw [g1] at k3
      cases k3
      have hlen2 : ∀ (k : Nat) (row : List Dat), (b.rows ++ src)[k]? = some row → row.length = i.size := by
        intro k row hk'
        rcases List.mem_append.1 (List.mem_of_getElem? hk') with h | h
        · obtain ⟨q, hq⟩ := List.getElem?_of_mem h; rw [k8 q row hq, hbsz]
        · obtain ⟨q, hq⟩ := List.getElem?_of_mem h; exact hlenS q row hq
      have htl := lt_of_get hb
      have hother : ∀ t, t ≠ tok → (A.bufs.set tok { b with rows := b.rows ++ src })[t]? = A.bufs[t]? := fun t ht => by rw [List.getElem?_set_ne (fun e => ht e.symm)]
      have hat : (A.bufs.set tok { b with rows := b.rows ++ src })[tok]? = some { b with rows := b.rows ++ src } := by simp [htl]
      by_cases hfit : b.rows.length + src.length ≤ cap
      · -- in place
        have hfit2 : b.rows.length * i.size + news.length ≤ vs.size := by rw [hv.len, g2, ← Nat.add_mul]; exact Nat.mul_le_mul_right _ hfit
        have hr := run_append_room (P := P) W t ty b.e i ht hi blk b.rows.length cap vs g1 a src.length c news hv.len hv.at' hv.one hfit hfit2
        have hloc := setRow_local (W := W) blk (vs.toList.take (b.rows.length * i.size) ++ news ++ vs.toList.drop (b.rows.length * i.size + news.length)).toArray
        have hrow := setRow_heap W blk vs (vs.toList.take (b.rows.length * i.size) ++ news ++ vs.toList.drop (b.rows.length * i.size + news.length)).toArray b.e (0, 0) g1
        have hget : ∀ (k : Nat) (v : Value), (vs.toList.take (b.rows.length * i.size) ++ news)[k]? = some v → ((vs.toList.take (b.rows.length * i.size) ++ news ++ vs.toList.drop (b.rows.length * i.size + news.length)).toArray)[k]? = some v := by
          intro k v hkv
          rw [List.getElem?_toArray, List.getElem?_append_left (lt_of_get hkv)]
          exact hkv
        have hset := hw.setBuf (W' := W.setRow blk (vs.toList.take (b.rows.length * i.size) ++ news ++ vs.toList.drop (b.rows.length * i.size + news.length)).toArray)
          (g' := { g with bf := fun t => if t = tok then .slice (some ⟨blk, 0, none⟩) (b.rows.length + src.length) cap else g.bf t })
          (A' := { A with bufs := A.bufs.set tok { b with rows := b.rows ++ src } }) (tok := tok) (b' := { b with rows := b.rows ++ src }) rfl hother hat
          (fun b2 hb2 => by
            rw [hb] at hb2; cases hb2
            exact ⟨rfl, by simp, fun e => by simp at e; exact absurd e hne⟩) hloc.rest (Nat.le_of_eq hloc.size.symm)
          (fun blk2 _ h2 => hloc.heap blk2 fun e => h2 (e ▸ k2)) rfl rfl (fun t ht => by simp [ht]) (fun _ _ => rfl) (fun blk2 o h1 h2 => by have := hw.lt _ _ h2; omega)
          (fun blk2 k h1 h2 => by
            by_cases hbb : blk2 = blk
            · subst hbb
              have hk := k10 k h2
              have hkk : k < b.rows.length * i.size := Nat.lt_of_lt_of_le hk (by rw [hbsz]; exact Nat.mul_le_mul_right _ k7)
              rw [cell_setRow_same W blk2 k vs _ b.e (0, 0) g1, cell_of_row W blk2 k vs b.e (0, 0) g1, List.getElem?_toArray, List.append_assoc, List.getElem?_append_left (by simp; omega), List.getElem?_take, if_pos hkk]
              simp
            · exact cell_same (hloc.heap _ hbb))
          (fun ev => by
            refine ⟨blk, cap, _, by simp, k2, hrow, ?_, by simpa using hfit, k6, by simp; omega, fun q row hq => by rw [hbsz]; exact hlen2 q row hq, fun q j row c' e1 e2 => ?_, fun k hk => k10 k hk⟩
            · simp only [List.size_toArray, List.length_append, List.length_take, List.length_drop, Array.length_toList, hbsz]
              omega
            · obtain ⟨v, hv1, hv2⟩ := l2 q j row c' e1 e2 (hlen2 q row e1)
              rw [hbsz]
              exact ⟨v, hget _ v hv1, ev.relD hv2⟩)
        refine ⟨_, _, _, hr, ?_, hset.1, hset.2⟩
        rw [← hl]
        refine .own tok _ _ _ (by simpa using htl) fun b2 hb2 => ?_
        rw [show ({ A with bufs := A.bufs.set tok { b with rows := b.rows ++ src } } : AHeap).bufs[tok]? = _ from hat] at hb2
        cases hb2
        exact ⟨by simp, fun _ => by simp⟩
      · -- somewhere else
        obtain ⟨m1, m2, m3, m4⟩ := make (b.rows.length + src.length) cap (vs.toList.take (b.rows.length * i.size)) news (by omega) (by omega) (by rw [l1, List.length_append])
        have hr := run_append_grow (P := P) W t ty b.e i zc ht hi hiz ⟨blk, 0, none⟩ b.rows.length cap _ ho.len ho.at' a src.length c news hv.len hv.at' (by omega) (by omega) (fits _ _ (by omega) (by omega))
        obtain ⟨w1, w2, w3⟩ := hw.newBlock (A' := { A with bufs := A.bufs.set tok { b with rows := b.rows ++ src } })
          (W' := W.drew.alloc (.cells ((vs.toList.take (b.rows.length * i.size)).toArray ++ news.toArray ++ Builtin.zeroCells zc.cells (grownCap W (b.rows.length + src.length) cap b.e - (b.rows.length + src.length))) b.e)) (tok := tok) (b' := { b with rows := b.rows ++ src })
          (vs := ((vs.toList.take (b.rows.length * i.size)).toArray ++ news.toArray ++ Builtin.zeroCells zc.cells (grownCap W (b.rows.length + src.length) cap b.e - (b.rows.length + src.length)))) (cap := grownCap W (b.rows.length + src.length) cap b.e)
          hother rfl hat (fun b2 hb2 => by rw [hb] at hb2; cases hb2; exact ⟨rfl, by simp; omega⟩) (by simpa using m2) m1 (by rw [m3, hbsz]) (by simp; omega) (fun q row hq => by rw [hbsz]; exact hlen2 q row hq)
          (fun k j row c' e1 e2 => by
            obtain ⟨v, hv1, hv2⟩ := l2 k j row c' e1 e2 (hlen2 k row e1)
            rw [hbsz]
            exact ⟨v, m4 _ v hv1, hv2⟩) rfl (drewAlloc W _ _)
        simp only [List.length_append] at w3 w1 w2
        rw [← hl]
        exact ⟨_, _, _, hr, w3, w1, w2⟩
  · cases h

end
end Go.Abs
