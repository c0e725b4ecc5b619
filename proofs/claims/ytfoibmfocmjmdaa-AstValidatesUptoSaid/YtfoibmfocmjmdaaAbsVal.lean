/- Operations that yield a value. -/
import Derived.Test.YtfoibmfocmjmdaaAbsStore
import Derived.MapKept
set_option linter.unusedVariables false
set_option linter.unusedSimpArgs false
set_option linter.all false
set_option linter.deprecated false
namespace Go.Abs

section
variable {P : Program} {W W' W0 : World} {g g' g0 : Gh} {A A' A0 : AHeap} {N nt : Nat} {β : Nat → Nat} {env : AEnv} {a : Act}

/-- the operation hands back a value that reads so; the heap goes on -/
def Outs (P : Program) (W : World) (g : Gh) (A A' : AHeap) (x : AV) (s : Sem Next) : Prop :=
  ∃ v W' g', (s.run P W = .ok (.value v) W' ∨ (s.run P W = .ok .skip W' ∧ v = undef)) ∧ RelV W' g' A' x v ∧ WRel W' g' A' ∧ Ev W g A W' g' A'

theorem Outs.val (hw : WRel W g A) {s : Sem Next} {v : Value} {x : AV} (h : s.run P W = .ok (.value v) W) (r : RelV W g A x v) : Outs P W g A A x s :=
  ⟨v, W, g, .inl h, r, hw, .refl W g A⟩

theorem Outs.sem (hw : WRel W g A) {s : Sem Value} {v : Value} {x : AV} (h : s.run P W = .ok v W) (r : RelV W g A x v) : Outs P W g A A x (do Pure.pure (.value (← s))) :=
  .val hw (by simp [h]) r

theorem Outs.semW {s : Sem Value} {v : Value} {x : AV} (h : s.run P W = .ok v W') (r : RelV W' g' A' x v) (hw : WRel W' g' A') (e : Ev W g A W' g' A') : Outs P W g A A' x (do Pure.pure (.value (← s))) :=
  ⟨v, W', g', .inl (by simp [h]), r, hw, e⟩

theorem undef_rel : RelV W g A (.tuple []) undef := .tuple [] [] rfl (fun i x v h => by simp at h)

/-! structs -/
theorem fieldsL_places : ∀ {l : List Field} {fs : List (Nat × Nat)}, fieldsL P l = some fs → l.mapM (fun f => (P.info? f.type).map fun i => (f.offset, i.size)) = some fs
  | [], fs, h => by cases h; rfl
  | f :: l, fs, h => by
    simp only [fieldsL, Option.bind_eq_some_iff, Option.map_eq_some_iff] at h
    obtain ⟨⟨n, agg⟩, hk, fs', hf, rfl⟩ := h
    obtain ⟨i, d, hi, hd, hs, _⟩ := kindT_some hk
    simp [List.mapM_cons, hi, hs, fieldsL_places hf]

theorem zeroT_some {t : TypeId} {z : AV} (h : zeroT P t = some z) : ∃ i v, P.info? t = some i ∧ i.zero = some v ∧ aval v = some z := by
  simp only [zeroT, Option.bind_eq_some_iff] at h
  obtain ⟨v, ⟨i, hi, hv⟩, hz⟩ := h
  exact ⟨i, v, hi, hv, hz⟩

theorem run_zeroValue {t : TypeId} {z : AV} (h : zeroT P t = some z) (w : World) : ∃ v, (zeroValue t).run P w = .ok v w ∧ aval v = some z := by
  obtain ⟨i, v, hi, hv, hz⟩ := zeroT_some h
  exact ⟨v, by simp [zeroValue, typeInfo, hi, hv], hz⟩

/-! slice literals -/
theorem replicate_get {α : Type} (l : List α) (hl : 0 < l.length) : ∀ (n k : Nat), k < n * l.length → (List.replicate n l).flatten[k]? = l[k % l.length]?
  | 0, k, h => by omega
  | n + 1, k, h => by
    simp only [List.replicate_succ, List.flatten_cons]
    by_cases hk : k < l.length
    · rw [List.getElem?_append_left hk, Nat.mod_eq_of_lt hk]
    · rw [List.getElem?_append_right (by omega), replicate_get l hl n (k - l.length) (by rw [Nat.add_mul] at h; omega)]
      congr 1
      exact (Nat.mod_eq_sub_mod (by omega)).symm

theorem afill_length {place : Nat → Option (Nat × Nat)} : ∀ {ps : List (Nat × AV)} {cs cs' : List AV}, afill place cs ps = some cs' → cs'.length = cs.length
  | [], cs, cs', h => by cases h; rfl
  | (i, x) :: ps, cs, cs', h => by
    simp only [afill, Option.bind_eq_some_iff] at h
    obtain ⟨p, hp, h⟩ := h
    split at h
    · rw [Option.bind_eq_some_iff] at h
      obtain ⟨c1, h1, h2⟩ := h
      rw [afill_length h2, (asplice_get h1).2.1]
    · cases h

theorem achunk_length (sz : Nat) : ∀ (n : Nat) (l : List Dat), (achunk sz n l).length = n
  | 0, l => rfl
  | n + 1, l => by simp [achunk, achunk_length sz n]

theorem achunk_get (sz : Nat) : ∀ (n : Nat) (l : List Dat) (i : Nat) (row : List Dat), (achunk sz n l)[i]? = some row → i < n ∧ row = (l.drop (i * sz)).take sz
  | 0, l, i, row, h => by simp [achunk] at h
  | n + 1, l, i, row, h => by
    cases i with
    | zero => simp [achunk] at h; exact ⟨by omega, by simp [h]⟩
    | succ i =>
      simp only [achunk, List.getElem?_cons_succ] at h
      obtain ⟨h1, h2⟩ := achunk_get sz n (l.drop sz) i row h
      refine ⟨by omega, ?_⟩
      rw [h2, List.drop_drop]
      congr 2
      rw [Nat.add_mul]; omega

theorem buildSlice_rel (hw : WRel W g A) {t e : TypeId} {sz n : Nat} (he : elemT P t = some (e, sz)) {z : AV} (hz : zeroT P e = some z) (hzl : z.cells.length = sz) (hsz : 0 < sz) (hle : n * sz ≤ 16777216)
    {ps : List (Nat × AV)} {qs : Array (Nat × Value)} (hl : ps.length = qs.toList.length) (hps : ∀ (i : Nat) (p : Nat × AV) (q : Nat × Value), ps[i]? = some p → qs.toList[i]? = some q → p.1 = q.1 ∧ RelV W g A p.2 q.2)
    {cs : List AV} (hf : afill (fun i => some (i * sz, sz)) (List.replicate n z.cells).flatten ps = some cs) {ds : List Dat} (hd : adats A cs = some (ds, A')) :
    ∃ v W' g', (Instr.buildSlice t n qs).run P W = .ok v W' ∧ RelV W' g' A' (.full (achunk sz n ds)) v ∧ WRel W' g' A' ∧ Ev W g A W' g' A' := by
  obtain ⟨hu, agg, hk⟩ := elemT_some he
  obtain ⟨i, d, hi, hd', his, _⟩ := kindT_some hk
  obtain ⟨i2, zv, hi2, hzv, hza⟩ := zeroT_some hz
  rw [hi] at hi2
  cases hi2
  have hzr : RelV W g A z zv := aval_rel hza
  have hzc := cells_rel hzr
  have hzs : zv.cells.size = sz := by have := hzc.1; simp at this; omega
  have hflen : ((List.replicate n z.cells).flatten).length = n * sz := by simp [hzl]
  have hrel0 : RelL W g A (List.replicate n z.cells).flatten ((Array.range (n * sz)).map (zv.cells[· % zv.cells.size]!)).toList := by
    refine ⟨by simp [hzl], fun k x v h1 h2 => ?_⟩
    have hk' := lt_of_get h1
    rw [hflen] at hk'
    rw [replicate_get z.cells (by omega) n k (by rw [hzl]; exact hk'), hzl] at h1
    have hm : k % sz < zv.cells.size := by rw [hzs]; exact Nat.mod_lt _ hsz
    have h3 : v = zv.cells[k % sz] := by
      rw [Array.getElem?_toList, Array.getElem?_map, Array.getElem?_range, if_pos hk'] at h2
      simp only [Option.map_some, Option.some.injEq, hzs] at h2
      rw [← h2, getElem!_pos zv.cells (k % sz) hm]
    refine hzc.2 (k % sz) x v h1 ?_
    rw [h3, Array.getElem?_toList]
    exact Array.getElem?_eq_getElem hm
  obtain ⟨vs', hfill, hvr⟩ := fill_rel hrel0 hl hps hf
  obtain ⟨g1, hds, w1, e1⟩ := adats_rel hw hvr hd
  have hrun : (Instr.buildSlice t n qs).run P W = .ok (.slice (some ⟨W.heap.size, 0, none⟩) n n) (W.alloc (.cells vs' e)) := by
    by_cases hn : n = 0
    · subst hn
      have h0 : ∀ f : Nat → Value, (Array.range 0).map f = #[] := fun f => by simp
      rw [Nat.zero_mul, h0] at hfill
      simp [Instr.buildSlice, run_underlying hu, sizeOf, typeInfo, hi, his, h0, hfill, newRow]
    · exact run_buildSlice W t e n qs vs' i zv hu hi hzv (by rw [his]; omega) (by rw [his]; exact Nat.mul_ne_zero hn (by omega)) (by simpa [his] using hfill)
  have w2 := w1.allocS (o := .cells vs' e) rfl
  have e2 := Ev.allocS w1 (o := .cells vs' e) rfl
  refine ⟨_, _, _, hrun, ?_, w2, e1.trans e2⟩
  have hcl : (achunk sz n ds).length = n := achunk_length sz n ds
  have hdl : ds.length = n * sz := by
    have h1 := hds.1
    have h2 := hvr.1
    have h3 := afill_length hf
    omega
  have hnew := heap_alloc_new W (.cells vs' e)
  have key : RelD (W.alloc (.cells vs' e)) (g1.addS W.heap.size).S (.slice (achunk sz n ds)) (.slice (some ⟨W.heap.size, 0, none⟩) (achunk sz n ds).length (achunk sz n ds).length) := by
    have hget : ∀ (i j : Nat) (row : List Dat) (c : Dat), (achunk sz n ds)[i]? = some row → row[j]? = some c → j < sz ∧ i < n ∧ ds[i * sz + j]? = some c := by
      intro i j row c q1 q2
      obtain ⟨r1, rfl⟩ := achunk_get sz n ds i row q1
      rw [List.getElem?_take] at q2
      split at q2
      · rename_i hj
        rw [List.getElem?_drop] at q2
        exact ⟨hj, r1, q2⟩
      · cases q2
    refine .slice (achunk sz n ds) W.heap.size 0 _ sz (fun i j => vs'.getD (i * sz + j) undef) (Nat.le_refl _) (fun i row q => ?_) (fun i j row c q1 q2 => ?_) (fun i j row c q1 q2 => ?_)
    · obtain ⟨r1, rfl⟩ := achunk_get sz n ds i row q
      have : (i + 1) * sz ≤ n * sz := Nat.mul_le_mul_right _ r1
      rw [Nat.add_mul] at this
      simp
      omega
    · obtain ⟨hj, hi', hc⟩ := hget i j row c q1 q2
      refine ⟨.inr rfl, ?_⟩
      have hlt := lt_of_get hc
      rw [hds.1] at hlt
      rw [cell_of_row _ _ _ vs' e (0, 0) hnew, Nat.zero_add, Array.getD_eq_getD_getElem?, ← Array.getElem?_toList, List.getElem?_eq_getElem hlt]
      rfl
    · obtain ⟨hj, hi', hc⟩ := hget i j row c q1 q2
      have hlt := lt_of_get hc
      rw [hds.1] at hlt
      rw [Array.getD_eq_getD_getElem?, ← Array.getElem?_toList, List.getElem?_eq_getElem hlt]
      exact e2.relD (hds.2 _ c _ hc (List.getElem?_eq_getElem hlt))
  have := RelV.full (A := A') _ _ key
  rw [hcl] at this
  exact this

/-! maps -/
theorem aeqK_rel {kd : Nat} {k j : Dat} {vk vj : Value} {b : Bool} {S : Nat → Nat → Prop} {kt : TypeId} {d : TypeDesc} (hd : P.underlying kt = some d) (hp : plainT P kt = some kd) (hk : RelD W S k vk) (hj : RelD W S j vj) (h : aeqK kd k j = some b) :
    Instr.sameNow d vk vj = some b ∧ (b = true → Instr.sameBits 10000 vj vk = true) := by
  unfold plainT at hp
  rw [hd] at hp
  unfold aeqK at h
  split at h
  · cases h
    cases hk; cases hj
    split at hp <;> cases hp
    rename_i hdd; cases hdd
    exact ⟨by simp [Instr.sameNow], fun h => by simp at h; subst h; simp [Instr.sameBits]⟩
  · split at h
    · rename_i hkk
      subst hkk
      cases h
      cases hk; cases hj
      split at hp <;> cases hp
      rename_i hdd; cases hdd
      exact ⟨by simp [Instr.sameNow], fun h => by simp at h; subst h; simp [Instr.sameBits]⟩
    · cases h
  · rename_i x y
    cases h
    generalize hx : Dat.str x = dx at hk
    generalize hy : Dat.str y = dy at hj
    cases hk <;> cases hx
    cases hj <;> cases hy
    rename_i s1 s2
    split at hp <;> cases hp
    rename_i hdd; cases hdd
    have hb : (s1 == s2) = (s1.data.toList == s2.data.toList) := by
      rw [Bool.eq_iff_iff, MapKept.bytes_beq, beq_iff_eq]
      constructor
      · intro h; rw [h]
      · intro h
        obtain ⟨d1⟩ := s1
        obtain ⟨d2⟩ := s2
        have : d1 = d2 := Array.toList_inj.1 h
        rw [this]
    refine ⟨by simp [Instr.sameNow, hb], fun h => ?_⟩
    rw [← hb, MapKept.bytes_beq] at h
    subst h
    simp only [Instr.sameBits]
    exact (MapKept.bytes_beq _ _).2 rfl
  · cases h

/-- the entries of a map, one by one -/
def RelM (W : World) (g : Gh) (A : AHeap) (es : List (Dat × AV)) (ms : List MapEntry) : Prop :=
  ms.length = es.length ∧ ∀ (i : Nat) (k : Dat) (x : AV) (m : MapEntry), es[i]? = some (k, x) → ms[i]? = some m → RelD W g.S k m.key ∧ RelV W g A x m.val

theorem RelM.tail {e : Dat × AV} {es : List (Dat × AV)} {m : MapEntry} {ms : List MapEntry} (h : RelM W g A (e :: es) (m :: ms)) : RelM W g A es ms :=
  ⟨by have := h.1; simpa using this, fun i k x m h1 h2 => h.2 (i + 1) k x m (by simpa using h1) (by simpa using h2)⟩

theorem afind_rel {kd : Nat} {kt : TypeId} {d : TypeDesc} (hd : P.underlying kt = some d) (hp : plainT P kt = some kd) {k : Dat} {vk : Value} (hk : RelD W g.S k vk) : ∀ {es : List (Dat × AV)} {ms : List MapEntry} {r : Option AV} (i : Nat), RelM W g A es ms → afind kd k es = some r →
    match r with
    | none => Instr.findNow d vk ms i = some none
    | some x => ∃ j v, Instr.findNow d vk ms i = some (some (j, v)) ∧ RelV W g A x v
  | [], [], r, i, h, hf => by cases hf; rfl
  | [], m :: ms, r, i, h, hf => by have := h.1; simp at this
  | e :: es, [], r, i, h, hf => by have := h.1; simp at this
  | (j, x) :: es, m :: ms, r, i, h, hf => by
    simp only [afind, Option.bind_eq_some_iff] at hf
    obtain ⟨b, hb, hf⟩ := hf
    obtain ⟨h1, h2⟩ := h.2 0 j x m rfl rfl
    obtain ⟨hs, _⟩ := aeqK_rel hd hp hk h1 hb
    cases b with
    | true =>
      simp at hf
      subst hf
      exact ⟨i, m.val, by simp [Instr.findNow, hs], h2⟩
    | false =>
      have ih := afind_rel hd hp hk (i + 1) h.tail (by simpa using hf)
      simpa [Instr.findNow, hs] using ih

def amatch (kd : Nat) (k : Dat) : List (Dat × AV) → Option (Option Nat)
  | [] => some none
  | (j, _) :: es => (aeqK kd k j).bind fun b => if b then some (some 0) else (amatch kd k es).map fun r => r.map (· + 1)

theorem aupd_match {kd : Nat} {k : Dat} {v : AV} : ∀ {es es' : List (Dat × AV)}, aupd kd k v es = some es' → ∃ r, amatch kd k es = some r ∧ es' = (match r with | none => es ++ [(k, v)] | some j => es.set j (k, v))
  | [], es', h => by cases h; exact ⟨none, rfl, rfl⟩
  | (j, x) :: es, es', h => by
    simp only [aupd, Option.bind_eq_some_iff] at h
    obtain ⟨b, hb, h⟩ := h
    cases b with
    | true => simp at h; subst h; exact ⟨some 0, by simp [amatch, hb], rfl⟩
    | false =>
      simp only [Bool.false_eq_true, if_false, Option.map_eq_some_iff] at h
      obtain ⟨es1, h1, rfl⟩ := h
      obtain ⟨r, hr, rfl⟩ := aupd_match h1
      refine ⟨r.map (· + 1), by simp [amatch, hb, hr], ?_⟩
      cases r <;> rfl

theorem adel_match {kd : Nat} {k : Dat} : ∀ {es es' : List (Dat × AV)}, adel kd k es = some es' → ∃ r, amatch kd k es = some r ∧ es' = (match r with | none => es | some j => es.eraseIdx j)
  | [], es', h => by cases h; exact ⟨none, rfl, rfl⟩
  | (j, x) :: es, es', h => by
    simp only [adel, Option.bind_eq_some_iff] at h
    obtain ⟨b, hb, h⟩ := h
    cases b with
    | true => simp at h; subst h; exact ⟨some 0, by simp [amatch, hb], rfl⟩
    | false =>
      simp only [Bool.false_eq_true, if_false, Option.map_eq_some_iff] at h
      obtain ⟨es1, h1, rfl⟩ := h
      obtain ⟨r, hr, rfl⟩ := adel_match h1
      refine ⟨r.map (· + 1), by simp [amatch, hb, hr], ?_⟩
      cases r <;> rfl

theorem amatch_rel {kd : Nat} {kt : TypeId} {d : TypeDesc} (hd : P.underlying kt = some d) (hp : plainT P kt = some kd) {k : Dat} {vk : Value} (hk : RelD W g.S k vk) : ∀ {es : List (Dat × AV)} {ms : List MapEntry} {r : Option Nat} (i : Nat), RelM W g A es ms → amatch kd k es = some r →
    match r with
    | none => Instr.findNow d vk ms i = some none
    | some j => ∃ m, ms[j]? = some m ∧ Instr.findNow d vk ms i = some (some (i + j, m.val)) ∧ Instr.sameBits 10000 m.key vk = true
  | [], [], r, i, h, hf => by cases hf; rfl
  | [], m :: ms, r, i, h, hf => by have := h.1; simp at this
  | e :: es, [], r, i, h, hf => by have := h.1; simp at this
  | (j, x) :: es, m :: ms, r, i, h, hf => by
    simp only [amatch, Option.bind_eq_some_iff] at hf
    obtain ⟨b, hb, hf⟩ := hf
    obtain ⟨h1, h2⟩ := h.2 0 j x m rfl rfl
    obtain ⟨hs, hsb⟩ := aeqK_rel hd hp hk h1 hb
    cases b with
    | true =>
      simp at hf
      subst hf
      exact ⟨m, rfl, by simp [Instr.findNow, hs], hsb rfl⟩
    | false =>
      simp only [Bool.false_eq_true, if_false, Option.map_eq_some_iff] at hf
      obtain ⟨r', hr', rfl⟩ := hf
      have ih := amatch_rel hd hp hk (i + 1) h.tail hr'
      cases r' with
      | none => simpa [Instr.findNow, hs] using ih
      | some q =>
        obtain ⟨m', e1, e2, e3⟩ := ih
        refine ⟨m', by simpa using e1, ?_, e3⟩
        simp only [Instr.findNow, hs, e2]
        congr 3
        omega

theorem mapT_some {t e : TypeId} {kd : Nat} (h : mapT P t = some (kd, e)) : ∃ kt d, P.underlying t = some (.map kt e) ∧ plainT P kt = some kd ∧ P.underlying kt = some d := by
  unfold mapT at h
  split at h
  · rename_i kt e' hu
    rw [Option.map_eq_some_iff] at h
    obtain ⟨kd', hk, h⟩ := h
    cases h
    cases hd : P.underlying kt with
    | none => simp [plainT, hd] at hk
    | some d => exact ⟨kt, d, hu, hk, hd⟩
  · cases h

theorem run_checkKey_plain {kt : TypeId} {d : TypeDesc} {kd : Nat} (hd : P.underlying kt = some d) (hp : plainT P kt = some kd) (e : Bool) (k : Value) (w : World) : (Instr.checkKey e 10000 kt k).run P w = .ok () w := by
  unfold plainT at hp
  rw [hd] at hp
  unfold Instr.checkKey
  simp only [Sem.run_bind, run_underlying hd, Result.andThen_ok]
  split at hp <;> cases hp <;> (rename_i hdd; cases hdd; simp)

theorem lookup_rel (hw : WRel W g A) {t : TypeId} {m k x : AV} {um uk : Value} {ok : Bool} (hm : RelV W g A m um) (hk : RelV W g A k uk) (h : alookup P t A m k ok = some x) :
    ∃ v, (Instr.lookup t um uk ok).run P W = .ok v W ∧ RelV W g A x v := by
  unfold alookup at h
  split at h
  case h_2 => cases h
  rename_i kd e id key hmt
  obtain ⟨kt, d, hu, hp, hd⟩ := mapT_some hmt
  split at h
  case h_2 => cases h
  rename_i es hes
  rw [Option.bind_eq_some_iff] at h
  obtain ⟨r, hr, h⟩ := h
  cases hm with
  | mapr _ hid =>
  cases hk with
  | d _ _ hkd =>
  obtain ⟨_, mes, clock, hb, hsz, hrel⟩ := hw.obj id _ hes
  have hM : RelM W g A es mes.toList := ⟨by simpa using hsz, fun i k x m h1 h2 => hrel i k x m h1 (by simpa using h2)⟩
  have hf := afind_rel hd hp hkd 0 hM hr
  have hg := MapKept.run_getObj_map (P := P) hb
  have hck : ∀ b : Bool, (Instr.checkKey b 10000 kt uk).run P W = .ok () W := fun b => run_checkKey_plain hd hp b uk W
  cases r with
  | none =>
    simp only at h hf
    rw [Option.map_eq_some_iff] at h
    obtain ⟨z, hz, h⟩ := h
    obtain ⟨zv, hzr, hza⟩ := run_zeroValue hz W
    have hfk := MapKept.run_findKey (P := P) (w := W) hd hf
    refine ⟨if ok then .tuple #[zv, .bool false] else zv, by simp [Instr.lookup, run_underlying hu, hg, hck, hfk, hzr], ?_⟩
    subst h
    cases ok with
    | false => exact aval_rel hza
    | true =>
      refine .tuple _ [zv, .bool false] rfl fun i x v h1 h2 => ?_
      match i with
      | 0 => simp at h1 h2; subst h1; subst h2; exact aval_rel hza
      | 1 => simp at h1 h2; subst h1; subst h2; exact .bool _
      | i + 2 => simp at h1
  | some y =>
    simp only at h hf
    obtain ⟨j, v, hfn, hv⟩ := hf
    have hfk := MapKept.run_findKey (P := P) (w := W) hd hfn
    refine ⟨if ok then .tuple #[v, .bool true] else v, by simp [Instr.lookup, run_underlying hu, hg, hck, hfk], ?_⟩
    cases h
    cases ok with
    | false => exact hv
    | true =>
      refine .tuple _ [v, .bool true] rfl fun i x v' h1 h2 => ?_
      match i with
      | 0 => simp at h1 h2; subst h1; subst h2; exact hv
      | 1 => simp at h1 h2; subst h1; subst h2; exact .bool _
      | i + 2 => simp at h1

theorem restMap {W : World} {r : Nat} {es es' : Array MapEntry} {k k' : Nat} (hb : W.heap[r]? = some (.map es k)) : Rest W { W with heap := W.heap.setIfInBounds r (.map es' k') } := by
  obtain ⟨s1, s2⟩ := MapKept.heap_set (o' := .map es' k') hb
  refine ⟨rfl, rfl, fun a => ?_⟩
  unfold World.frozen?
  by_cases h : a.block = r
  · simp only [h, s1, hb]
  · rw [s2 _ h]

theorem restIter {W : World} {r : Nat} {s : ByteArray} {k k' : Nat} (hb : W.heap[r]? = some (.stringIter s k)) : Rest W { W with heap := W.heap.setIfInBounds r (.stringIter s k') } := by
  obtain ⟨s1, s2⟩ := MapKept.heap_set (o' := .stringIter s k') hb
  refine ⟨rfl, rfl, fun a => ?_⟩
  unfold World.frozen?
  by_cases h : a.block = r
  · simp only [h, s1, hb]
  · rw [s2 _ h]

theorem next_rel (hw : WRel W g A) {ty : TypeId} {p x : AV} {u : Value} (hp : RelV W g A p u) (h : anext A p = some (x, A')) :
    ∃ v W', (Instr.next u true ty).run P W = .ok v W' ∧ RelV W' g A' x v ∧ WRel W' g A' ∧ Ev W g A W' g A' := by
  unfold anext at h
  split at h
  case h_2 => cases h
  rename_i id
  split at h
  case h_2 => cases h
  rename_i s pos hid
  cases hp with
  | ptr _ _ hlt =>
  obtain ⟨ho, hb⟩ := hw.obj id _ hid
  have hb' : W.heap[g.ob id]? = some (.stringIter ⟨s.toArray⟩ pos) := hb
  have hsz : (⟨s.toArray⟩ : ByteArray).size = s.length := by simp [ByteArray.size]
  split at h
  · rename_i hpos
    cases h
    obtain ⟨s1, s2⟩ := MapKept.heap_set (o' := .stringIter ⟨s.toArray⟩ (pos + (Utf8.decode ⟨s.toArray⟩ pos).2)) hb'
    obtain ⟨w1, w2⟩ := hw.setObj (W' := { W with heap := W.heap.setIfInBounds (g.ob id) (.stringIter ⟨s.toArray⟩ (pos + (Utf8.decode ⟨s.toArray⟩ pos).2)) }) (g' := g)
      (A' := { A with objs := A.objs.set id (.iter s (pos + (Utf8.decode ⟨s.toArray⟩ pos).2)) }) (id := id) (o' := .iter s (pos + (Utf8.decode ⟨s.toArray⟩ pos).2)) rfl
      (fun i hi => by rw [List.getElem?_set_ne (fun e => hi e.symm)]) (by simp [hlt]) (by simp) (restIter hb') (by simp) (fun blk _ h2 => s2 blk h2) rfl rfl (fun _ _ => rfl) (fun _ _ => rfl) ho
      (by have := hw.lt _ _ ho; simpa using this) (fun blk o h1 h2 => by have := hw.lt _ _ h2; omega) (fun ev => s1)
    refine ⟨.tuple #[.bool true, .int .i64 pos, .int .i32 (Utf8.decode ⟨s.toArray⟩ pos).1], _, ?_, ?_, w1, w2⟩
    · simp [Instr.next, getObj, setObj, Sem.run, hb', hsz, hpos, goInt]
    · refine .tuple _ [.bool true, .int .i64 pos, .int .i32 (Utf8.decode ⟨s.toArray⟩ pos).1] rfl fun i y v h1 h2 => ?_
      match i with
      | 0 => simp at h1 h2; subst h1; subst h2; exact .bool _
      | 1 => simp at h1 h2; subst h1; subst h2; exact .int _ _
      | 2 => simp at h1 h2; subst h1; subst h2; exact .int _ _
      | i + 3 => simp at h1
  · rename_i hpos
    cases h
    refine ⟨.tuple #[.bool false], W, ?_, ?_, hw, .refl _ _ _⟩
    · simp [Instr.next, getObj, Sem.run, hb', hsz, hpos]
    · refine .tuple _ [.bool false] rfl fun i y v h1 h2 => ?_
      match i with
      | 0 => simp at h1 h2; subst h1; subst h2; exact .bool _
      | i + 1 => simp at h1

/-- a map is laid anew -/
theorem WRel.setMap (hw : WRel W g A) {id : Nat} {es es' : List (Dat × AV)} {mes mes' : Array MapEntry} {clock clock' : Nat} (hes : A.objs[id]? = some (.map es)) (hb : W.heap[g.ob id]? = some (.map mes clock))
    (hM : RelM W g A es' mes'.toList) : WRel { W with heap := W.heap.setIfInBounds (g.ob id) (.map mes' clock') } g { A with objs := A.objs.set id (.map es') } ∧
      Ev W g A { W with heap := W.heap.setIfInBounds (g.ob id) (.map mes' clock') } g { A with objs := A.objs.set id (.map es') } := by
  have hid := lt_of_get hes
  have ho := (hw.obj id _ hes).1
  obtain ⟨s1, s2⟩ := MapKept.heap_set (o' := .map mes' clock') hb
  refine hw.setObj (id := id) (o' := .map es') rfl (fun i hi => by rw [List.getElem?_set_ne (fun e => hi e.symm)]) (by simp [hid]) (by simp) (restMap hb) (by simp) (fun blk _ h2 => s2 blk h2) rfl rfl (fun _ _ => rfl) (fun _ _ => rfl) ho
    (by have := hw.lt _ _ ho; simpa using this) (fun blk o h1 h2 => by have := hw.lt _ _ h2; omega) (fun ev => ⟨mes', clock', s1, by have := hM.1; simpa using this, fun i k x m h1 h2 => ?_⟩)
  obtain ⟨r1, r2⟩ := hM.2 i k x m h1 (by simpa using h2)
  exact ⟨ev.relD r1, ev.relV r2⟩

theorem mapUpdate_rel (hw : WRel W g A) {t : TypeId} {m k x : AV} {um uk ux : Value} (hm : RelV W g A m um) (hk : RelV W g A k uk) (hx : RelV W g A x ux) (h : amapUpdate P t A m k x = some A') :
    ∃ W', (Instr.mapUpdate t um uk ux).run P W = .ok () W' ∧ WRel W' g A' ∧ Ev W g A W' g A' := by
  unfold amapUpdate at h
  split at h
  case h_2 => cases h
  rename_i kd e id key hmt
  obtain ⟨kt, d, hu, hp, hd⟩ := mapT_some hmt
  split at h
  case h_2 => cases h
  rename_i es hes
  split at h
  case isFalse => cases h
  rw [Option.map_eq_some_iff] at h
  obtain ⟨es', hup, h⟩ := h
  cases h
  cases hm with
  | mapr _ hid =>
  cases hk with
  | d _ _ hkd =>
  obtain ⟨_, mes, clock, hb, hsz, hrel⟩ := hw.obj id _ hes
  have hM : RelM W g A es mes.toList := ⟨by simpa using hsz, fun i k x m h1 h2 => hrel i k x m h1 (by simpa using h2)⟩
  obtain ⟨r, hr, rfl⟩ := aupd_match hup
  have hf := amatch_rel hd hp hkd 0 hM hr
  have hg := MapKept.run_getObj_map (P := P) hb
  have hck : ∀ b : Bool, (Instr.checkKey b 10000 kt uk).run P W = .ok () W := fun b => run_checkKey_plain hd hp b uk W
  cases r with
  | none =>
    simp only at hf ⊢
    have hfk := MapKept.run_findKey (P := P) (w := W) hd hf
    have hst := fun o => MapKept.run_setObj_map (P := P) o hb
    have hM' : RelM W g A (es ++ [(key, x)]) (mes.push { key := uk, val := ux, born := clock }).toList := by
      refine ⟨by simp [hsz], fun i k' x' m h1 h2 => ?_⟩
      simp only [Array.toList_push] at h2
      rcases Nat.lt_trichotomy i es.length with h | h | h
      · rw [List.getElem?_append_left h] at h1
        rw [List.getElem?_append_left (by simp [hsz]; exact h)] at h2
        exact hM.2 i k' x' m h1 h2
      · subst h
        rw [List.getElem?_append_right (Nat.le_refl _)] at h1
        rw [List.getElem?_append_right (by simp [hsz])] at h2
        simp [hsz] at h1 h2
        obtain ⟨rfl, rfl⟩ := h1
        subst h2
        exact ⟨hkd, hx⟩
      · rw [List.getElem?_eq_none (by simp; omega)] at h1
        cases h1
    obtain ⟨w1, w2⟩ := hw.setMap (clock' := clock + 1) hes hb hM'
    exact ⟨_, by simp [Instr.mapUpdate, run_underlying hu, hg, hck, hfk, hst], w1, w2⟩
  | some j =>
    simp only at hf ⊢
    obtain ⟨m, hmj, hfn, hsb⟩ := hf
    have hfk := MapKept.run_findKey (P := P) (w := W) hd hfn
    have hst := fun o => MapKept.run_setObj_map (P := P) o hb
    have hmj' : mes[j]? = some m := by simpa using hmj
    have hjl := lt_of_get hmj
    have hM' : RelM W g A (es.set j (key, x)) (mes.modify j fun e => { e with key := uk, val := ux }).toList := by
      refine ⟨by simp [hsz], fun i k' x' m' h1 h2 => ?_⟩
      simp only [Array.toList_modify, List.getElem?_modify] at h2
      rw [List.getElem?_set] at h1
      by_cases hji : j = i
      · subst hji
        have hjl' : j < es.length := by rw [← hM.1]; exact hjl
        simp only [if_true, hjl'] at h1
        cases h1
        rw [hmj] at h2
        simp at h2
        subst h2
        exact ⟨hkd, hx⟩
      · rw [if_neg hji] at h1
        have h2' : mes.toList[i]? = some m' := by
          cases hq : mes.toList[i]? with
          | none => simp [hq] at h2
          | some q => simp [hq, hji] at h2; rw [h2]
        exact hM.2 i k' x' m' h1 h2'
    obtain ⟨w1, w2⟩ := hw.setMap (clock' := clock) hes hb hM'
    refine ⟨_, ?_, w1, w2⟩
    have hks : (Instr.keyThatStays m.key uk).run P W = .ok uk W := by simp [Instr.keyThatStays, hsb]
    simp [Instr.mapUpdate, run_underlying hu, hg, hck, hfk, hmj', hks, hst]

theorem delete_rel (hw : WRel W g A) {t ty : TypeId} {ts : Array TypeId} (hts : ts[0]? = some t) {m k : AV} {um uk : Value} (hm : RelV W g A m um) (hk : RelV W g A k uk) (h : adelete P t A m k = some A') :
    ∃ W', (Builtin.delete_ ts ty #[um, uk]).run P W = .ok (.tuple #[]) W' ∧ WRel W' g A' ∧ Ev W g A W' g A' := by
  unfold adelete at h
  split at h
  case h_2 => cases h
  rename_i kd e id key hmt
  obtain ⟨kt, d, hu, hp, hd⟩ := mapT_some hmt
  split at h
  case h_2 => cases h
  rename_i es hes
  rw [Option.map_eq_some_iff] at h
  obtain ⟨es', hup, h⟩ := h
  cases h
  cases hm with
  | mapr _ hid =>
  cases hk with
  | d _ _ hkd =>
  obtain ⟨_, mes, clock, hb, hsz, hrel⟩ := hw.obj id _ hes
  have hM : RelM W g A es mes.toList := ⟨by simpa using hsz, fun i k x m h1 h2 => hrel i k x m h1 (by simpa using h2)⟩
  obtain ⟨r, hr, rfl⟩ := adel_match hup
  have hf := amatch_rel hd hp hkd 0 hM hr
  have hg := MapKept.run_getObj_map (P := P) hb
  have hck : ∀ b : Bool, (Instr.checkKey b 10000 kt uk).run P W = .ok () W := fun b => run_checkKey_plain hd hp b uk W
  have hst := fun o => MapKept.run_setObj_map (P := P) o hb
  cases r with
  | none =>
    simp only at hf ⊢
    have hfk := MapKept.run_findKey (P := P) (w := W) hd hf
    obtain ⟨w1, w2⟩ := hw.setMap (clock' := clock) hes hb hM
    exact ⟨_, by simp [Builtin.delete_, hts, run_underlying hu, hg, hck, hfk, hst], w1, w2⟩
  | some j =>
    simp only at hf ⊢
    obtain ⟨m, hmj, hfn, hsb⟩ := hf
    have hfk := MapKept.run_findKey (P := P) (w := W) hd hfn
    have hjl := lt_of_get hmj
    have hM' : RelM W g A (es.eraseIdx j) (mes.eraseIdxIfInBounds j).toList := by
      have hjs : j < mes.size := by simpa using hjl
      have he : (mes.eraseIdxIfInBounds j).toList = mes.toList.eraseIdx j := by simp [Array.eraseIdxIfInBounds, hjs]
      rw [he]
      refine ⟨by rw [List.length_eraseIdx, List.length_eraseIdx, hM.1], fun i k' x' m' h1 h2 => ?_⟩
      rw [List.getElem?_eraseIdx] at h1 h2
      split at h1
      · rename_i hi
        rw [if_pos hi] at h2
        exact hM.2 _ _ _ _ h1 h2
      · rename_i hi
        rw [if_neg hi] at h2
        exact hM.2 _ _ _ _ h1 h2
    obtain ⟨w1, w2⟩ := hw.setMap (clock' := clock) hes hb hM'
    exact ⟨_, by simp [Builtin.delete_, hts, run_underlying hu, hg, hck, hfk, hst], w1, w2⟩

end
end Go.Abs
