/- One operation, done: the frame's slots and the heap read as the abstract machine says. -/
import Derived.LoopN
import Derived.Test.YtpbdjgdmhfibmaaGreatDoorGenA
set_option linter.all false
namespace Go.Abs
section
variable {P : Program} {W W' W0 : World} {g g' g0 : Gh} {A A' A0 : AHeap} {N nt : Nat} {β : Nat → Nat} {env env' : AEnv} {a : Act}
theorem parts_vals (he : ERel W g A N nt β env a) {parts : Array (Nat × Operand)} {ps : List (Nat × AV)} (h : aparts env parts.toList = some ps) :
  ps.length = (parts.map fun (i, x) => (i, a.eval x)).toList.length ∧
  ∀ (i : Nat) (p : Nat × AV) (q : Nat × Value), ps[i]? = some p → (parts.map fun (i, x) => (i, a.eval x)).toList[i]? = some q → p.1 = q.1 ∧ RelV W g A p.2 q.2 := by
 obtain ⟨h1, h2⟩ := aparts_rel he h
 refine ⟨by simpa using h1, fun i p q e1 e2 => ?_⟩
 rw [Array.toList_map, List.getElem?_map, Option.map_eq_some_iff] at e2
 obtain ⟨q', e2, rfl⟩ := e2
 obtain ⟨r1, r2⟩ := h2 i p q' e1 e2
 exact ⟨r1, r2⟩
theorem args_vals (he : ERel W g A N nt β env a) {args : Array Operand} {xs : List AV} (h : aevals env args.toList = some xs) : RelL W g A xs (args.map a.eval).toList := by
 have := aevals_rel he h
 simpa using this
theorem idx_of_agg {P : Program} {t : TypeId} {len sz : Nat} {agg : Bool} (ha : arrT P t = some (len, sz, agg)) {cs : List AV} {vs : Array Value} (hr : RelL W g A cs vs.toList) {k : IntKind} {n : Int} (h0 : 0 ≤ n) (h1 : n < len) {x : AV}
  (h : apart cs (n.toNat * sz) sz agg = some x) : ∃ v, (Instr.index t (.agg vs) (.int k n)).run P W = .ok v W ∧ RelV W g A x v := by
 obtain ⟨e, hu, hk⟩ := arrT_some ha
 obtain ⟨v, hv, hrv⟩ := part_rel (P := P) hk hr h W
 exact ⟨v, by simp [Instr.index, asIntOf, run_underlying hu, h0, h1, run_sizeOf hk, hv], hrv⟩
theorem plainS_rel {x : AV} {v : Value} (h : RelV W g A x v) : RelV W g A x.plainS v := by
 cases h with
 | full rows a hd => exact .d _ _ hd
 | nilS => exact .d _ _ (.empty none 0)
 | d x v hd => exact .d _ _ hd
 | own tok len a cap ht hh => exact .own tok len a cap ht hh
 | nilP => exact .nilP
 | ptr id off h => exact .ptr id off h
 | sptr ds b o val h1 h2 => exact .sptr ds b o val h1 h2
 | eptr tok len i off p ht hh => exact .eptr tok len i off p ht hh
 | nilF => exact .nilF
 | nilI => exact .nilI
 | nilM => exact .nilM
 | func fn f c vs us h1 h2 r1 r2 => exact .func fn f c vs us h1 h2 r1 r2
 | mapr id h => exact .mapr id h
 | agg cs vs h r => exact .agg cs vs h r
 | tuple cs vs h r => exact .tuple cs vs h r
def Op.calls : Op → Bool
 | .call cl => match cl.callee with
   | .value _ => true
   | _ => false
 | _ => false
set_option maxHeartbeats 1000000 in
theorem aval1_rel {c : ACtx} {call : FuncId → AFun} (hw : WRel W g A) (he : ERel W g A N nt β env a) {o : Oper} (hnc : Op.calls o.op = false) {xr : AV} (h : aval1 c call env A o.op = some (xr, A')) : Outs c.P W g A A' xr (execOp a.eval o) := by
 generalize hop : o.op = op at h hnc
 unfold execOp
 rw [hop]
 generalize o.type = ty
 simp only
 cases op
 case makeMap t r =>
  cases r with
  | some r => simp only [aval1] at h; cases h
  | none =>
  simp only [aval1] at h
  split at h
  case h_2 => cases h
  cases h
  obtain ⟨w1, w2⟩ := hw.pushObj (.map []) (.map #[] 0) trivial (fun g' A' e => ⟨#[], 0, heap_alloc_new W _, rfl, fun i k x m h => by simp at h⟩)
  refine .semW (s := Instr.makeMap t none) (v := .map (some W.heap.size)) rfl ?_ w1 w2
  have := RelV.mapr (W := W.alloc (.map #[] 0)) (g := g.newObj A.objs.length W.heap.size) (A := { A with objs := A.objs ++ [.map []] }) A.objs.length (by simp)
  simpa [Gh.newObj] using this
 case slice t x lo hi mx =>
  cases mx with
  | some r => simp only [aval1] at h; cases h
  | none =>
  simp only [aval1] at h
  have fin : (A' = A ∧ ∃ r, (Instr.sliceAt t (a.eval x) (lo.map a.eval) (hi.map a.eval) none).run c.P W = .ok r W ∧ RelV W g A xr r) →
    Outs c.P W g A A' xr (do Pure.pure (.value (← Instr.sliceAt t (a.eval x) (lo.map a.eval) (hi.map a.eval) none))) := fun hh => by
   obtain ⟨rfl, r, hr, hv⟩ := hh
   exact .sem hw hr hv
  cases hx : aeval env x with
  | none => rw [hx] at h; simp at h
  | some y =>
  rw [hx, Option.map_some] at h
  cases lo with
  | none =>
    cases hi with
    | none => exact fin (sliceAt_rel (P := c.P) hw (t := t) (plainS_rel (aeval_rel he hx)) (.inl ⟨rfl, rfl⟩) (.inl ⟨rfl, rfl⟩) h)
    | some r =>
      cases hr : aeval env r with
      | none => simp [hr] at h
      | some q =>
        simp only [Option.map_some, hr] at h
        exact fin (sliceAt_rel (P := c.P) hw (t := t) (plainS_rel (aeval_rel he hx)) (.inl ⟨rfl, rfl⟩) (.inr ⟨q, a.eval r, rfl, rfl, aeval_rel he hr⟩) h)
  | some l =>
    cases hl : aeval env l with
    | none => cases hi <;> simp [hl] at h
    | some p =>
      cases hi with
      | none =>
        simp only [Option.map_some, hl] at h
        exact fin (sliceAt_rel (P := c.P) hw (t := t) (plainS_rel (aeval_rel he hx)) (.inr ⟨p, a.eval l, rfl, rfl, aeval_rel he hl⟩) (.inl ⟨rfl, rfl⟩) h)
      | some r =>
        cases hr : aeval env r with
        | none => simp [hr, hl] at h
        | some q =>
          simp only [Option.map_some, hl, hr] at h
          exact fin (sliceAt_rel (P := c.P) hw (t := t) (plainS_rel (aeval_rel he hx)) (.inr ⟨p, a.eval l, rfl, rfl, aeval_rel he hl⟩) (.inr ⟨q, a.eval r, rfl, rfl, aeval_rel he hr⟩) h)
 all_goals simp only [aval1] at h
 all_goals try (cases h; done)
 all_goals try simp only []
 case move x =>
  rw [Option.map_eq_some_iff] at h
  obtain ⟨y, hy, h⟩ := h
  cases h
  exact .val hw rfl (aeval_rel he hy)
 case assign x =>
  rw [Option.map_eq_some_iff] at h
  obtain ⟨y, hy, h⟩ := h
  cases h
  exact .val hw rfl (aeval_rel he hy)
 case pick cnd p q =>
  split at h
  case h_2 => cases h
  rename_i t va vb h1 h2 h3
  cases h
  have e1 := (aeval_rel he h1).dBool
  refine .val hw (v := if t then a.eval p else a.eval q) ?_ ?_
  ·simp [e1, asBool]
  ·cases t
   ·simpa using aeval_rel he h3
   ·simpa using aeval_rel he h2
 case build t parts =>
  split at h
  case h_2 => cases h
  rename_i z fs ps hz hfs hps
  rw [Option.map_eq_some_iff] at h
  obtain ⟨cs, hc, h⟩ := h
  cases h
  obtain ⟨h1, h2⟩ := parts_vals he hps
  obtain ⟨v, hr, hv⟩ := build_rel hw hz hfs h1 h2 hc
  exact .sem hw hr hv
 case buildSlice t n parts =>
  split at h
  case h_2 => cases h
  rename_i e ps hel hps
  split at h
  case h_2 => cases h
  rename_i z hz
  split at h
  case isFalse => cases h
  rename_i hcond
  rw [Option.bind_eq_some_iff] at h
  obtain ⟨cs, hc, h⟩ := h
  rw [Option.map_eq_some_iff] at h
  obtain ⟨⟨ds, A1⟩, hd, h⟩ := h
  cases h
  obtain ⟨h1, h2⟩ := parts_vals he hps
  obtain ⟨v, W', g', hr, r1, r2, r3⟩ := buildSlice_rel hw (e := e.1) (sz := e.2) hel hz hcond.1 hcond.2.1 hcond.2.2 h1 h2 hc hd
  exact .semW hr r1 r2 r3
 case makeSlice t l k =>
  split at h
  case h_2 => cases h
  rename_i e p q hel hp hq
  obtain ⟨hu, agg, hk⟩ := elemT_some hel
  obtain ⟨v, W', g', hr, r1, r2, r3⟩ := make_rel hw hu hk (aeval_rel he hp) (aeval_rel he hq) h
  exact .semW hr r1 r2 r3
 case nilCheck x =>
  split at h <;> try (cases h; done)
  all_goals
   rename_i hx
   cases h
   have hr := aeval_rel he hx
   obtain ⟨ad, hv⟩ := nilCheck_rel hr (by first | exact .inl ⟨_, _, rfl⟩ | exact .inr (.inl ⟨_, rfl⟩) | exact .inr (.inr ⟨_, _, _, _, rfl⟩))
   exact .val hw (v := a.eval x) (by simp [hv]) hr
 case binOp op t x y k =>
  split at h
  case h_2 => cases h
  rename_i p q hp hq
  rw [Option.map_eq_some_iff] at h
  obtain ⟨z, hz, h⟩ := h
  cases h
  obtain ⟨h1, r, h2, h3⟩ := bin_rel (aeval_rel he hp) (aeval_rel he hq) hz x y
  exact .sem hw (s := do eqGuard op t x y (a.eval x) (a.eval y); binOp op t (a.eval x) (a.eval y)) (by simp [h1, h2]) h3
 case unOp op t x =>
  simp only [Option.bind_eq_some_iff, Option.map_eq_some_iff] at h
  obtain ⟨p, hp, z, hz, h⟩ := h
  cases h
  obtain ⟨r, h2, h3⟩ := unary_rel (P := c.P) hw (aeval_rel he hp) hz
  exact .sem hw h2 h3
 case convert s t x =>
  simp only [Option.bind_eq_some_iff, Option.map_eq_some_iff] at h
  obtain ⟨p, hp, z, hz, h⟩ := h
  cases h
  obtain ⟨r, h2, h3⟩ := conv_rel (aeval_rel he hp) hz
  exact .sem hw h2 h3
 case makeFunc fn first captured =>
  split at h
  case h_2 => cases h
  rename_i p q hp hq
  cases h
  have r1 := args_vals he hp
  have r2 := args_vals he hq
  refine .sem hw (s := Instr.makeFunc fn (first.map a.eval) (captured.map a.eval)) (v := .func fn (first.map a.eval) (captured.map a.eval)) rfl ?_
  have := RelV.func (W := W) (g := g) (A := A) fn p q _ _ r1.1 r2.1 r1.2 r2.2
  simpa only [Array.toArray_toList] using this
 case field t x i =>
  split at h
  case h_2 => cases h
  rename_i cs off n agg hx hf
  rw [Option.map_eq_some_iff] at h
  obtain ⟨y, hy, h⟩ := h
  cases h
  have hr := aeval_rel he hx
  obtain ⟨fs, f, hu, hfi, ho, hk⟩ := fieldT_some hf
  generalize hv : a.eval x = v at hr
  cases hr with
  | agg _ vs hl r =>
  obtain ⟨w, hw1, hw2⟩ := part_rel (P := c.P) hk (vs := vs.toArray) (show RelL W g A cs vs.toArray.toList from ⟨by simpa using hl, by simpa using r⟩) hy W
  rw [← ho] at hw1
  refine .sem hw (s := Instr.field t (Value.agg vs.toArray) i) (v := w) ?_ hw2
  simp [Instr.field, run_underlying hu, hfi, asAgg, hw1]
 case index t x i =>
  split at h
  ·rename_i s k n hx hi
   split at h
   case isFalse => cases h
   rename_i hc
   rw [Option.map_eq_some_iff] at h
   obtain ⟨b, hb, h⟩ := h
   cases h
   obtain ⟨bs, hv, rfl⟩ := (aeval_rel he hx).dStr
   have hi' := (aeval_rel he hi).dInt
   have hu := strT_true hc.1
   have hget : bs[n.toNat]? = some b := by
    have : bs[n.toNat]? = bs.data[n.toNat]? := rfl
    rw [this, ← Array.getElem?_toList]; exact hb
   rw [hv, hi']
   exact .sem hw (s := Instr.index t (.string bs) (.int k n)) (by simp [Instr.index, asIntOf, run_underlying hu, hc.2, hget] <;> rfl) (.int _ _)
  ·rename_i cs k n hx hi
   split at h
   case h_2 => cases h
   rename_i len sz agg ha
   split at h
   case isFalse => cases h
   rename_i hc
   rw [Option.map_eq_some_iff] at h
   obtain ⟨y, hy, h⟩ := h
   cases h
   have hr := aeval_rel he hx
   have hi' := (aeval_rel he hi).dInt
   generalize hv : a.eval x = v at hr
   cases hr with
   | agg _ vs hl r =>
   obtain ⟨w, hw1, hw2⟩ := idx_of_agg (P := c.P) ha (vs := vs.toArray) (show RelL W g A cs vs.toArray.toList from ⟨by simpa using hl, by simpa using r⟩) (k := k) hc.1 hc.2 hy
   rw [hi']
   exact .sem hw hw1 hw2
  ·cases h
 case lookup t m k ok =>
  split at h
  case h_2 => cases h
  rename_i p q hp hq
  rw [Option.map_eq_some_iff] at h
  obtain ⟨y, hy, h⟩ := h
  cases h
  obtain ⟨v, h1, h2⟩ := lookup_rel hw (aeval_rel he hp) (aeval_rel he hq) hy
  exact .sem hw h1 h2
 case mapUpdate t m k x =>
  split at h
  case h_2 => cases h
  rename_i p q v hp hq hv
  rw [Option.map_eq_some_iff] at h
  obtain ⟨A1, hu, h⟩ := h
  cases h
  obtain ⟨W', h1, h2, h3⟩ := mapUpdate_rel hw (aeval_rel he hp) (aeval_rel he hq) (aeval_rel he hv) hu
  exact ⟨undef, W', g, .inr ⟨by simp [h1], rfl⟩, undef_rel, h2, h3⟩
 case range t x =>
  split at h
  case h_2 => cases h
  rename_i s hs
  split at h
  case isFalse => cases h
  rename_i hst
  cases h
  obtain ⟨b, hv, rfl⟩ := (aeval_rel he hs).dStr
  have hu := strT_true hst
  have hba : (⟨b.data.toList.toArray⟩ : ByteArray) = b := by cases b; simp
  obtain ⟨w1, w2⟩ := hw.pushObj (.iter b.data.toList 0) (.stringIter b 0) trivial (fun g' A' e => by
   show (W.alloc (.stringIter b 0)).heap[W.heap.size]? = _
   rw [hba]
   exact heap_alloc_new W _)
  rw [hv]
  refine .semW (s := Instr.range t (.string b)) (v := .pointer (some ⟨W.heap.size, 0, none⟩)) (W' := W.alloc (.stringIter b 0)) (by simp [Instr.range, run_underlying hu]) ?_ w1 w2
  have := RelV.ptr (W := W.alloc (.stringIter b 0)) (g := g.newObj A.objs.length W.heap.size) (A := { A with objs := A.objs ++ [.iter b.data.toList 0] }) A.objs.length 0 (by simp)
  simpa [Gh.newObj] using this
 case next x s =>
  split at h
  case isFalse => cases h
  rename_i hs
  subst hs
  rw [Option.bind_eq_some_iff] at h
  obtain ⟨p, hp, h⟩ := h
  obtain ⟨v, W', h1, h2, h3, h4⟩ := next_rel (P := c.P) (ty := ty) hw (aeval_rel he hp) h
  exact .semW h1 h2 h3 h4
 case extract t i =>
  split at h
  case h_2 => cases h
  rename_i vs hvs
  rw [Option.map_eq_some_iff] at h
  obtain ⟨y, hy, h⟩ := h
  cases h
  have hr := aeval_rel he hvs
  generalize hv : a.eval t = v at hr
  cases hr with
  | tuple _ us hl r =>
  have hlt : i < us.length := by rw [← hl]; exact lt_of_get hy
  refine .sem hw (s := Instr.extract (.tuple us.toArray) i) (v := us[i]) (by simp [Instr.extract, List.getElem?_eq_getElem hlt]) (r i _ _ hy (List.getElem?_eq_getElem hlt))
 case call cl =>
  split at h
  ·rename_i f hf
   simp [Op.calls, hf] at hnc
  ·rename_i b hb
   rw [Option.bind_eq_some_iff] at h
   obtain ⟨xs, hxs, h⟩ := h
   have hr := builtin_rel (ty := ty) (cn := cl.args.map fun | .const _ => true | _ => false) hw (args_vals he hxs) h
   obtain ⟨v, W', g', h1, h2, h3, h4⟩ := hr
   refine ⟨v, W', g', ?_, h2, h3, h4⟩
   simp only [Sem.run_bind, resolve, hb, Sem.run_pure, Result.andThen_ok, invoke]
   exact h1
  ·cases h
end
section
variable {P : Program} {W W' W0 : World} {g g' g0 : Gh} {A A' A0 : AHeap} {N nt : Nat} {β : Nat → Nat} {env env' : AEnv} {a : Act}
theorem run_fieldAt {t : TypeId} {i off n : Nat} {agg : Bool} (hf : fieldT P t i = some (off, n, agg)) (hn : n ≠ 0) (ad : Addr) : (Instr.fieldAt t (.pointer (some ad)) i).run P W = .ok (.pointer (some (ad.add off))) W := by
 obtain ⟨fs, f, hu, hfi, ho, hk⟩ := fieldT_some hf
 subst ho
 simp [Instr.fieldAt, run_underlying hu, hfi, Instr.sureAddr, fieldPlace, run_sizeOf hk, hn]
theorem run_indexAt_arr {t : TypeId} {len sz : Nat} {agg : Bool} (ha : arrT P t = some (len, sz, agg)) (ad : Addr) (k : IntKind) {n : Int} (h0 : 0 ≤ n) (h1 : n < len) :
  (Instr.indexAt t (.pointer (some ad)) (.int k n)).run P W = .ok (.pointer (some (ad.add (n.toNat * sz)))) W := by
 obtain ⟨e, hu, hk⟩ := arrT_some ha
 simp [Instr.indexAt, asIntOf, run_underlying hu, Instr.sureAddr, h0, h1, run_sizeOf hk]
theorem run_indexAt_sl {t e : TypeId} {sz : Nat} (he : elemT P t = some (e, sz)) (ad : Addr) (len cap : Nat) (k : IntKind) {n : Int} (h0 : 0 ≤ n) (h1 : n < len) :
  (Instr.indexAt t (.slice (some ad) len cap) (.int k n)).run P W = .ok (.pointer (some (ad.add (n.toNat * sz)))) W := by
 obtain ⟨hu, agg, hk⟩ := elemT_some he
 simp [Instr.indexAt, asIntOf, run_underlying hu, h0, h1, run_sizeOf hk]
theorem field_rel {t : TypeId} {i off n : Nat} {agg : Bool} (hf : fieldT P t i = some (off, n, agg)) (hn : n ≠ 0) {x : AV} {u : Value} (hx : RelV W g A x u) {y : AV}
  (h : (match some x with
    | some (.ptr id o') => some (AV.ptr id (o' + off))
    | some (.sptr ds) => some (.sptr (ds.drop off))
    | some (.eptr tok len j o') => some (.eptr tok len j (o' + off))
    | _ => none) = some y) : ∃ v, (Instr.fieldAt t u i).run P W = .ok v W ∧ RelV W g A y v := by
 cases hx <;> simp only at h <;> try (cases h; done)
 case ptr id o' hid =>
  cases h
  refine ⟨_, run_fieldAt hf hn _, ?_⟩
  rw [addr_add]
  exact .ptr id (o' + off) hid
 case sptr ds b o val hcell hval =>
  cases h
  refine ⟨_, run_fieldAt hf hn _, ?_⟩
  rw [addr_add]
  refine .sptr (ds.drop off) b (o + off) (fun j => val (off + j)) (fun j c hj => ?_) (fun j c hj => ?_)
  ·rw [List.getElem?_drop] at hj
   have := hcell (off + j) c hj
   rw [Nat.add_assoc]
   exact this
  ·rw [List.getElem?_drop] at hj
   exact hval (off + j) c hj
 case eptr tok len j o' p ht hp =>
  cases h
  refine ⟨_, run_fieldAt hf hn _, ?_⟩
  refine .eptr tok len j (o' + off) _ ht fun b hb => ?_
  obtain ⟨h1, h2⟩ := hp b hb
  refine ⟨h1, fun h3 => ?_⟩
  obtain ⟨blk, cap, e1, e2⟩ := h2 h3
  refine ⟨blk, cap, e1, ?_⟩
  rw [e2, addr_add, Nat.add_assoc]
theorem index_rel (hw : WRel W g A) {t e : TypeId} {sz : Nat} (he : elemT P t = some (e, sz)) {x : AV} {u : Value} (hx : RelV W g A x u) (k : IntKind) {n : Int} {y : AV} (h : aindex sz A n x = some y) :
  ∃ v, (Instr.indexAt t u (.int k n)).run P W = .ok v W ∧ RelV W g A y v := by
 have data : ∀ {rows : List (List Dat)} {v : Value}, RelD W g.S (.slice rows) v → (if 0 ≤ n then (match rows[n.toNat]? with
   | some row => if row.length = sz then some (AV.sptr row) else none
   | none => none) else none) = some y → ∃ r, (Instr.indexAt t v (.int k n)).run P W = .ok r W ∧ RelV W g A y r := by
  intro rows v hd h
  split at h
  case isFalse => cases h
  rename_i h0
  split at h
  case h_2 => cases h
  rename_i row hrow
  split at h
  case isFalse => cases h
  rename_i hl
  cases h
  generalize hdd : Dat.slice rows = dd at hd
  cases hd with
  | bool => cases hdd
  | int => cases hdd
  | str => cases hdd
  | nil => cases hdd
  | empty => cases hdd; simp at hrow
  | slice rows' b o cap sz' val hcap hlen hcell hval =>
    cases hdd
    have hlt := lt_of_get hrow
    have hs : sz' = sz := by rw [← hlen _ row hrow, hl]
    subst hs
    refine ⟨_, run_indexAt_sl he _ _ _ k h0 (by omega), ?_⟩
    rw [addr_add]
    refine .sptr row b _ (fun j => val n.toNat j) (fun j c hj => ?_) (fun j c hj => hval _ j row c hrow hj)
    exact hcell _ j row c hrow hj
 unfold aindex at h
 split at h
 ·rename_i tok len
  split at h
  case h_2 => cases h
  rename_i b hb
  split at h
  case isFalse => cases h
  rename_i hc
  cases h
  obtain ⟨hl, h0, h1, hs⟩ := hc
  obtain ⟨blk, cap, rfl, hbf⟩ := own_bf hw hx hb hl
  refine ⟨_, run_indexAt_sl he _ _ _ k h0 (by omega), ?_⟩
  rw [addr_add]
  refine .eptr tok len n.toNat 0 _ (lt_of_get hb) fun b' hb' => ?_
  rw [hb] at hb'
  cases hb'
  refine ⟨by omega, fun _ => ⟨blk, cap, by rw [hbf, hl], by simp [hs]⟩⟩
 ·rename_i hno
  split at h
  case h_2 => cases h
  rename_i rows hrows
  cases x <;> simp only [arows] at hrows <;> try (cases hrows; done)
  case d dd =>
   cases dd <;> simp only [arows] at hrows <;> try (cases hrows; done)
   cases hrows
   cases hx with
   | d _ _ hd => exact data hd h
  case nilS => cases hrows; simp at h
  case full rs =>
   cases hrows
   cases hx with
   | full _ ad hd => exact data hd h
  case own tok len => exact absurd rfl (hno tok len)
structure StG (W0 : World) (g0 : Gh) (A0 : AHeap) (nt : Nat) (env : AEnv) (A : AHeap) (a : Act) (W : World) (g : Gh) (β : Nat → Nat) : Prop where
 w : WRel W g A
 e : ERel W g A W0.heap.size nt β env a
 ev : Ev W0 g0 A0 W g A
 df : a.defers = []
def St (W0 : World) (g0 : Gh) (A0 : AHeap) (nt : Nat) (env : AEnv) (A : AHeap) (a : Act) (W : World) : Prop := ∃ g β, StG W0 g0 A0 nt env A a W g β
theorem put_some (d : Nat) (v : Value) : a.put (some d) v = { a with tmps := a.tmps.setIfInBounds d v } := rfl
theorem StG.value (s : StG W0 g0 A0 nt env A a W g β) {x : AV} {v : Value} (r : RelV W' g' A' x v) (hw : WRel W' g' A') (e : Ev W g A W' g' A') {dst : Option Nat} (h : alay nt (dst.map (·, .v x)) env = some env') :
  StG W0 g0 A0 nt env' A' (a.put dst v) W' g' β := by
 have he := s.e.ev e
 cases dst with
 | none => cases h; exact ⟨hw, he, s.ev.trans e, s.df⟩
 | some d =>
   simp only [Option.map_some, alay] at h
   split at h
   case isFalse => cases h
   rename_i hd
   cases h
   refine ⟨hw, ?_, s.ev.trans e, s.df⟩
   rw [put_some]
   refine he.put (.v x v ?_ r) (fun cs h => by cases h)
   have := s.e.size
   simp [this, hd]
theorem StG.place (s : StG W0 g0 A0 nt env A a W g β) {q off : Nat} {dst : Option Nat} (h : alay nt (dst.map (·, .place q off)) env = some env') :
  StG W0 g0 A0 nt env' A (a.put dst (.pointer (some ⟨β q, off, none⟩))) W g β := by
 cases dst with
 | none => cases h; exact s
 | some d =>
   simp only [Option.map_some, alay] at h
   split at h
   case isFalse => cases h
   rename_i hd
   cases h
   refine ⟨s.w, ?_, s.ev, s.df⟩
   rw [put_some]
   refine s.e.put (.place q off ?_) (fun cs h => by cases h)
   have := s.e.size
   simp [this, hd]
theorem noPlaceOf_spec {d : Nat} : ∀ {env : AEnv} {t s off : Nat}, noPlaceOf d env = true → alook env t = some (.place s off) → s ≠ d
 | [], t, s, off, _, h => by cases h
 | (q, x) :: l, t, s, off, hn, h => by
   rw [alook_cons_eq] at h
   cases x with
   | place s' off' =>
     simp only [noPlaceOf, Bool.and_eq_true, bne_iff_ne] at hn
     split at h
     ·cases h; exact hn.1
     ·exact noPlaceOf_spec hn.2 h
   | v y =>
     simp only [noPlaceOf] at hn
     split at h
     ·cases h
     ·exact noPlaceOf_spec hn h
   | box cs =>
     simp only [noPlaceOf] at hn
     split at h
     ·cases h
     ·exact noPlaceOf_spec hn h
theorem StG.newBox (s : StG W0 g0 A0 nt env A a W g β) {d : Nat} (hd : d < nt) (hn : noPlaceOf d env = true) {cs : List AV} {vs : Array Value} {T : TypeId} (r : RelL W g A cs vs.toList) :
  ∃ β', StG W0 g0 A0 nt ((d, .box cs) :: env) A (a.put (some d) (.pointer (some ⟨W.heap.size, 0, none⟩))) (W.alloc (.cells vs T)) g β' := by
 have hw := s.w
 have e := Ev.alloc hw (o := .cells vs T) rfl
 have hown : g.own W.heap.size = none := by
  cases h : g.own W.heap.size with
  | none => rfl
  | some o => have := hw.lt _ _ h; omega
 have hS : ∀ o, ¬ g.S W.heap.size o := fun o h => by have := hw.stab _ _ h; omega
 have hsz := s.e.size
 refine ⟨fun t => if t = d then W.heap.size else β t, hw.alloc rfl, ?_, s.ev.trans e, s.df⟩
 have he := s.e.ev e
 have hblk : ∀ t cs', alook env t = some (.box cs') → β t < W.heap.size := by
  intro t cs' h
  cases s.e.slot t _ h with
  | box _ h1 vs' T' hw' _ _ _ => exact lt_heap hw'
 rw [put_some]
 refine ⟨by simpa using hsz, fun t x hx => ?_, fun p q c1 c2 h1 h2 h3 => ?_, fun t c h => ?_⟩
 ·rw [alook_cons_eq] at hx
  split at hx
  ·rename_i hdt
   subst hdt
   cases hx
   refine .box cs ?_ vs T ?_ (e.relL r) ?_ ?_
   ·simp [hsz, hd]
   ·simp only [if_true]; exact heap_alloc_new W _
   ·simpa using hown
   ·simpa using hS
  ·rename_i hdt
   have hdt' : ¬ t = d := fun h => hdt h.symm
   cases he.slot t x hx with
   | v y u h1 r1 => exact .v y u (by rw [Array.getElem?_setIfInBounds_ne hdt]; exact h1) r1
   | box c h1 vs' T' hw' r' ho hs =>
     refine .box c ?_ vs' T' ?_ r' ?_ ?_
     ·rw [Array.getElem?_setIfInBounds_ne hdt]; simpa [hdt'] using h1
     ·simpa [hdt'] using hw'
     ·simpa [hdt'] using ho
     ·simpa [hdt'] using hs
   | place q off h1 =>
     have hq := noPlaceOf_spec hn hx
     refine .place q off ?_
     rw [Array.getElem?_setIfInBounds_ne hdt]
     simpa [hq] using h1
 ·rw [alook_cons_eq] at h1 h2
  split at h1
  ·rename_i hp
   subst hp
   split at h2
   ·rename_i hq; exact hq
   ·rename_i hq
    have hq' : ¬ q = d := fun h => hq h.symm
    simp only [if_true, hq', if_false] at h3
    have := hblk q _ h2
    omega
  ·rename_i hp
   have hp' : ¬ p = d := fun h => hp h.symm
   split at h2
   ·rename_i hq
    subst hq
    simp only [hp', if_false, if_true] at h3
    have := hblk p _ h1
    omega
   ·rename_i hq
    have hq' : ¬ q = d := fun h => hq h.symm
    simp only [hp', hq', if_false] at h3
    exact s.e.inj p q c1 c2 h1 h2 h3
 ·rw [alook_cons_eq] at h
  have hle := s.ev.size
  split at h
  ·rename_i ht; subst ht; simp; exact hle
  ·rename_i ht
   have ht' : ¬ t = d := fun h => ht h.symm
   simp only [ht', if_false]
   exact s.e.young t c h
theorem StG.setBox (s : StG W0 g0 A0 nt env A a W g β) {q : Nat} {cs cs' : List AV} {vs vs' : Array Value} {T : TypeId} (hq : alook env q = some (.box cs)) (hb : W.heap[β q]? = some (.cells vs T (0, 0))) (r : RelL W g A cs' vs'.toList) (hqn : q < nt) :
  StG W0 g0 A0 nt ((q, .box cs') :: env) A a (W.setRow (β q) vs') g β := by
 have hw := s.w
 cases s.e.slot q _ hq with
 | box _ h1 vs0 T0 hw0 r0 ho hs =>
 have hloc := setRow_local (W := W) (β q) vs'
 have hN := s.e.young q _ hq
 have ev : EvV W g A (W.setRow (β q) vs') g A := .loc hloc hs
 refine ⟨hw.loc hloc hs ho, ⟨s.e.size, fun t x hx => ?_, fun p p' c1 c2 e1 e2 e3 => ?_, fun t c h => ?_⟩, s.ev.loc hloc hs hN, s.df⟩
 ·rw [alook_cons_eq] at hx
  split at hx
  ·rename_i ht
   subst ht
   cases hx
   exact .box cs' h1 vs' T (setRow_heap W _ vs vs' T (0, 0) hb) (ev.relL r) ho hs
  ·rename_i ht
   cases hsl : s.e.slot t x hx with
   | v y u h1 r1 => exact .v y u h1 (ev.relV r1)
   | box c h2 vs2 T2 hw2 r2 ho2 hs2 =>
     have hne : β t ≠ β q := fun e => ht (s.e.inj t q _ _ hx hq e).symm
     exact .box c h2 vs2 T2 ((hloc.heap _ hne).trans hw2) (ev.relL r2) ho2 hs2
   | place p off h2 => exact .place p off h2
 ·have k1 : ∃ c, alook env p = some (.box c) := by
   rw [alook_cons_eq] at e1
   split at e1
   ·rename_i h; subst h; exact ⟨_, hq⟩
   ·exact ⟨_, e1⟩
  have k2 : ∃ c, alook env p' = some (.box c) := by
   rw [alook_cons_eq] at e2
   split at e2
   ·rename_i h; subst h; exact ⟨_, hq⟩
   ·exact ⟨_, e2⟩
  obtain ⟨d1, k1⟩ := k1
  obtain ⟨d2, k2⟩ := k2
  exact s.e.inj p p' _ _ k1 k2 e3
 ·rw [alook_cons_eq] at h
  split at h
  ·rename_i ht; subst ht; exact hN
  ·exact s.e.young t c h
end
section
variable {P : Program} {W W' W0 : World} {g g' g0 : Gh} {A A' A0 : AHeap} {N nt : Nat} {β : Nat → Nat} {env env' : AEnv} {a : Act} {Q : Exit → Act → World → Prop}
def CallPost (W : World) (g : Gh) (A : AHeap) (x : AV) (A' : AHeap) (e : Ending) (W' : World) : Prop :=
 ∃ v g', e = .returned v ∧ RelV W' g' A' x v ∧ WRel W' g' A' ∧ Ev W g A W' g' A'
def CallAt (W0 : World) (g0 : Gh) (P : Program) (call : FuncId → AFun) : Prop :=
 ∀ (f : FuncId) (xs : List AV) (A : AHeap) (x : AV) (A' : AHeap), call f xs A = some (x, A') →
   (∃ fn, P.funcs[f]? = some fn ∧ (fn.name == "runtime.NumGoroutine") = false ∧ fn.body.isNone = false) ∧
   ∀ (W : World) (g : Gh) (vs : List Value), (∃ B C, Ev W0 g0 B W g C) → WRel W g A → RelL W g A xs vs → Calls P f vs.toArray W (CallPost W g A x A')
def CallOk (P : Program) (call : FuncId → AFun) : Prop :=
 ∀ (f : FuncId) (xs : List AV) (A : AHeap) (x : AV) (A' : AHeap), call f xs A = some (x, A') →
   (∃ fn, P.funcs[f]? = some fn ∧ (fn.name == "runtime.NumGoroutine") = false ∧ fn.body.isNone = false) ∧
   ∀ (W : World) (g : Gh) (vs : List Value), WRel W g A → RelL W g A xs vs → Calls P f vs.toArray W (CallPost W g A x A')
theorem wp_value {o : Oper} {v : Value} {K : Act → World → Prop} (h : (execOp a.eval o).run P W = .ok (.value v) W') (hk : K (a.put o.dst v) W') : o.wp P a W K Q := by
 unfold Oper.wp
 rw [h]
 exact hk
theorem wp_skip {o : Oper} {K : Act → World → Prop} (h : (execOp a.eval o).run P W = .ok .skip W') (hk : K (a.put o.dst undef) W') : o.wp P a W K Q := by
 unfold Oper.wp
 rw [h]
 exact hk
theorem wp_outs {o : Oper} {x : AV} (s : StG W0 g0 A0 nt env A a W g β) (h : Outs P W g A A' x (execOp a.eval o)) (hl : alay nt (o.dst.map (·, .v x)) env = some env') :
  o.wp P a W (St W0 g0 A0 nt env' A') Q := by
 obtain ⟨v, W', g', h1, h2, h3, h4⟩ := h
 rcases h1 with h1 | ⟨h1, rfl⟩
 ·exact wp_value h1 ⟨g', β, s.value h2 h3 h4 hl⟩
 ·exact wp_skip h1 ⟨g', β, s.value h2 h3 h4 hl⟩
theorem RelL.append {xs ys : List AV} {us vs : List Value} (h1 : RelL W g A xs us) (h2 : RelL W g A ys vs) : RelL W g A (xs ++ ys) (us ++ vs) := by
 refine ⟨by simp [h1.1, h2.1], fun i x v e1 e2 => ?_⟩
 by_cases hi : i < xs.length
 ·rw [List.getElem?_append_left hi] at e1
  rw [List.getElem?_append_left (by rw [← h1.1]; exact hi)] at e2
  exact h1.2 i x v e1 e2
 ·rw [List.getElem?_append_right (by omega)] at e1
  rw [List.getElem?_append_right (by rw [← h1.1]; omega), ← h1.1] at e2
  exact h2.2 _ x v e1 e2
theorem wp_call {c : ACtx} {call : FuncId → AFun} (hc : CallAt W0 g0 c.P call) {o : Oper} {cl : Call} (ho : o.op = .call cl) {gop : Operand} (hcal : cl.callee = .value gop) (s : StG W0 g0 A0 nt env A a W g β) {f : FuncId} {first captured args : List AV}
  (hg : aeval env gop = some (.func (.func f) first captured)) (ha : aevals env cl.args.toList = some args) {x : AV} (h : call f (first ++ args ++ captured) A = some (x, A')) (hl : alay nt (o.dst.map (·, .v x)) env = some env') :
  o.wp c.P a W (St W0 g0 A0 nt env' A') Q := by
 obtain ⟨⟨fn, hf, hnm, hbd⟩, hcalls⟩ := hc f _ A x A' h
 have hgr := aeval_rel s.e hg
 have har := args_vals s.e ha
 generalize hv : a.eval gop = v at hgr
 cases hgr with
 | func _ _ _ vs us h1 h2 r1 r2 =>
 have hrel : RelL W g A (first ++ args ++ captured) (vs ++ (cl.args.map a.eval).toList ++ us) := ((show RelL W g A first vs from ⟨h1, r1⟩).append har).append ⟨h2, r2⟩
 have hC := hcalls W g _ ⟨_, _, s.ev⟩ s.w hrel
 have hrun : (execOp a.eval o).run c.P W = .ok (.enter f (vs ++ (cl.args.map a.eval).toList ++ us).toArray) W := by
  unfold execOp
  rw [ho]
  simp only [Sem.run_bind, resolve, hcal, hv, Deferred.ofValue, Sem.run_pure, Result.andThen_ok, invoke, callFunc, run_program, hf, hnm, hbd, Bool.false_eq_true, if_false]
  congr 2
  simp
 unfold Oper.wp
 rw [hrun, Oper.upon_enter]
 refine Calls.mono hC fun e W' hp => ?_
 obtain ⟨v, g', rfl, p1, p2, p3⟩ := hp
 exact ⟨g', β, s.value p1 p2 p3 hl⟩
theorem esc_box {c : ACtx} {f : FuncId} {o : Oper} {d : Nat} (hd : o.dst = some d) (s : StG W0 g0 A0 nt env A a W g β) {cs : List AV} {vs : Array Value} {T : TypeId} (r : RelL W g A cs vs.toList)
  (hrun : (execOp a.eval o).run P W = .ok (.value (.pointer (some ⟨W.heap.size, 0, none⟩))) (W.alloc (.cells vs T))) {w : Option (Nat × Slot)}
  (h : (if (c.esc f).contains d then some (some (d, Slot.v (.ptr A.objs.length 0)), { A with objs := A.objs ++ [mkObj c T cs] })
    else if noPlaceOf d env then some (some (d, .box cs), A) else none) = some (w, A')) (hl : alay nt w env = some env') : o.wp P a W (St W0 g0 A0 nt env' A') Q := by
 split at h
 ·cases h
  obtain ⟨w1, w2⟩ := s.w.pushObj (mkObj c T cs) (.cells vs T) rfl (fun g' A' e => by
   unfold mkObj
   cases c.typed T with
   | true => exact ⟨vs, heap_alloc_new W _, e.relL r⟩
   | false => exact ⟨vs, T, heap_alloc_new W _, e.relL r⟩)
  refine wp_value hrun ⟨_, β, s.value (x := .ptr A.objs.length 0) ?_ w1 w2 (by rw [hd]; exact hl)⟩
  have := RelV.ptr (W := W.alloc (.cells vs T)) (g := g.newObj A.objs.length W.heap.size) (A := { A with objs := A.objs ++ [mkObj c T cs] }) A.objs.length 0 (by simp)
  simpa [Gh.newObj] using this
 ·split at h
  case isFalse => cases h
  rename_i hn
  cases h
  simp only [alay] at hl
  split at hl
  case isFalse => cases hl
  rename_i hdn
  cases hl
  obtain ⟨β', s'⟩ := s.newBox (T := T) hdn hn r
  refine wp_value hrun ⟨g, β', ?_⟩
  rw [hd]
  exact s'
set_option maxHeartbeats 1000000 in
theorem aop_wp {c : ACtx} {call : FuncId → AFun} (hc : CallAt W0 g0 c.P call) {f : FuncId} {o : Oper} (s : StG W0 g0 A0 nt env A a W g β) (h : aop c call f nt o env A = some (env', A')) : o.wp c.P a W (St W0 g0 A0 nt env' A') Q := by
 unfold aop at h
 rw [Option.bind_eq_some_iff] at h
 obtain ⟨⟨w, A1⟩, he, h⟩ := h
 rw [Option.map_eq_some_iff] at h
 obtain ⟨env1, hl, h⟩ := h
 have h1 : env1 = env' := by cases h; rfl
 have h2 : A1 = A' := by cases h; rfl
 rw [h1] at hl
 rw [h2] at he
 clear h h1 h2
 simp only at hl
 -- operations that lay their own slot
 have slot : ∀ {op : Op}, o.op = op → (aslot c call env A op).map (fun r => (o.dst.map (·, r.1), r.2)) = some (w, A') → o.wp c.P a W (St W0 g0 A0 nt env' A') Q := by
  intro op hop h
  rw [Option.map_eq_some_iff] at h
  obtain ⟨⟨sl, A2⟩, hs, h⟩ := h
  have h1 : w = o.dst.map (·, sl) := by cases h; rfl
  have h2 : A2 = A' := by cases h; rfl
  rw [h1] at hl
  rw [h2] at hs
  clear h h1 h2
  have val : (aval1 c call env A op).map (fun r => (Slot.v r.1, r.2)) = some (sl, A') → o.wp c.P a W (St W0 g0 A0 nt env' A') Q := by
   intro h
   rw [Option.map_eq_some_iff] at h
   obtain ⟨⟨x, A3⟩, hx, h⟩ := h
   have h1 : sl = .v x := by cases h; rfl
   have h2 : A3 = A' := by cases h; rfl
   rw [h1] at hl
   rw [h2] at hx
   clear h h1 h2
   by_cases hcs : Op.calls op = true
   ·cases op <;> simp only [Op.calls] at hcs <;> try (cases hcs; done)
    rename_i cl
    simp only [aval1] at hx
    split at hx
    ·rename_i gop hcal
     split at hx
     ·rename_i ff first captured args hg ha
      exact wp_call hc hop hcal s hg ha hx hl
     ·cases hx
    ·rename_i b hb; simp [hb] at hcs
    ·cases hx
   ·exact wp_outs s (aval1_rel s.w s.e (by rw [hop]; simpa using hcs) (by rw [hop]; exact hx)) hl
  cases op
  case load t x =>
   simp only [aslot] at hs
   split at hs
   case h_2 => cases hs
   rename_i n agg hk
   split at hs
   ·rename_i q off hp
    rw [Option.bind_eq_some_iff] at hs
    obtain ⟨cs, hcs, hs⟩ := hs
    rw [Option.map_eq_some_iff] at hs
    obtain ⟨y, hy, hs⟩ := hs
    cases hs
    have hev := aplace_rel s.e hp
    obtain ⟨vs, T, hb, hr, _⟩ := abox_rel s.e hcs
    obtain ⟨v, hv, hrv⟩ := run_loadVar (P := c.P) hk (hr.cellsAt hb) hy
    rw [Nat.zero_add] at hv
    refine wp_value (W' := W) (v := v) ?_ ⟨g, β, s.value hrv s.w (.refl _ _ _) hl⟩
    unfold execOp
    rw [hop]
    simp [Instr.loadAt, hev, Instr.sureAddr, hv]
   ·rw [Option.bind_eq_some_iff] at hs
    obtain ⟨p, hp, hs⟩ := hs
    rw [Option.map_eq_some_iff] at hs
    obtain ⟨y, hy, hs⟩ := hs
    cases hs
    obtain ⟨ad, v, hev, hv, hrv⟩ := aload_rel (P := c.P) s.w hk (aeval_rel s.e hp) hy
    refine wp_value (W' := W) (v := v) ?_ ⟨g, β, s.value hrv s.w (.refl _ _ _) hl⟩
    unfold execOp
    rw [hop]
    simp [Instr.loadAt, hev, Instr.sureAddr, hv]
  case fieldAddr t x i =>
   simp only [aslot] at hs
   split at hs
   case h_2 => cases hs
   rename_i off n agg hf
   split at hs
   ·cases hs
   rename_i hn
   split at hs
   ·rename_i q o' hp
    cases hs
    have hev := aplace_rel s.e hp
    have hr := run_fieldAt (P := c.P) (W := W) hf hn ⟨β q, o', none⟩
    rw [addr_add] at hr
    refine wp_value (W' := W) ?_ ⟨g, β, s.place hl⟩
    unfold execOp
    rw [hop]
    simp [hev, hr]
   ·rename_i hnp
    have key : ∀ {p y : AV}, aeval env x = some p → (match some p with
      | some (.ptr id o') => some (AV.ptr id (o' + off))
      | some (.sptr ds) => some (.sptr (ds.drop off))
      | some (.eptr tok len j o') => some (.eptr tok len j (o' + off))
      | _ => none) = some y → sl = .v y → A' = A → o.wp c.P a W (St W0 g0 A0 nt env' A') Q := by
     intro p y hp hy hsl hA
     subst hsl
     subst hA
     obtain ⟨v, hv, hrv⟩ := field_rel (P := c.P) hf hn (aeval_rel s.e hp) hy
     refine wp_value (W' := W) (v := v) ?_ ⟨g, β, s.value hrv s.w (.refl _ _ _) hl⟩
     unfold execOp
     rw [hop]
     simp [hv]
    split at hs
    ·rename_i id o' hp; cases hs; exact key hp rfl rfl rfl
    ·rename_i ds hp; cases hs; exact key hp rfl rfl rfl
    ·rename_i tok len j o' hp; cases hs; exact key hp rfl rfl rfl
    ·cases hs
  case indexAddr t x i =>
   simp only [aslot] at hs
   split at hs
   case h_2 => cases hs
   rename_i k n hi
   have hiv := (aeval_rel s.e hi).dInt
   split at hs
   ·rename_i len sz agg ha
    split at hs
    case h_2 => cases hs
    rename_i q o' hp
    split at hs
    case isFalse => cases hs
    rename_i hcnd
    cases hs
    have hev := aplace_rel s.e hp
    have hr := run_indexAt_arr (P := c.P) (W := W) ha ⟨β q, o', none⟩ k hcnd.1 hcnd.2
    rw [addr_add] at hr
    refine wp_value (W' := W) ?_ ⟨g, β, s.place hl⟩
    unfold execOp
    rw [hop]
    simp [hev, hiv, hr]
   ·split at hs
    case h_2 => cases hs
    rename_i e v hel hv
    rw [Option.map_eq_some_iff] at hs
    obtain ⟨y, hy, hs⟩ := hs
    cases hs
    obtain ⟨r, hr, hrr⟩ := index_rel (P := c.P) s.w (e := e.1) hel (aeval_rel s.e hv) k hy
    refine wp_value (W' := W) (v := r) ?_ ⟨g, β, s.value hrr s.w (.refl _ _ _) hl⟩
    unfold execOp
    rw [hop]
    simp [hiv, hr]
  all_goals exact val hs
 cases hop : o.op
 case alloc t =>
  simp only [aeff, hop] at he
  split at he
  case h_2 => cases he
  rename_i z d hz hd
  obtain ⟨zv, hzr, hza⟩ := run_zeroValue hz W
  refine esc_box (c := c) (f := f) hd s (vs := zv.cells) (T := t) (cells_rel (aval_rel hza)) ?_ he hl
  unfold execOp
  rw [hop]
  simp [Instr.alloc, hzr, newVar, newRow]
 case box t x =>
  simp only [aeff, hop] at he
  split at he
  case h_2 => cases he
  rename_i v d hv hd
  refine esc_box (c := c) (f := f) hd s (vs := (a.eval x).cells) (T := t) (cells_rel (aeval_rel s.e hv)) ?_ he hl
  unfold execOp
  rw [hop]
  simp [Instr.box, newVar, newRow]
 case store t x y =>
  simp only [aeff, hop] at he
  split at he
  ·cases he
  rename_i hd
  rw [Option.bind_eq_some_iff] at he
  obtain ⟨v, hv, he⟩ := he
  split at he
  case isFalse => cases he
  rename_i hcnd
  obtain ⟨hkk, hone⟩ := hcnd
  rw [Option.map_eq_some_iff] at hkk
  obtain ⟨⟨n, agg⟩, hk, hn⟩ := hkk
  simp only at hn
  have hvr := aeval_rel s.e hv
  have hcr := cells_rel hvr
  have hsz : (a.eval y).cells.size = n := by have := hcr.1; simp at this; omega
  split at he
  ·rename_i q off hp
   rw [Option.bind_eq_some_iff] at he
   obtain ⟨cs, hcs, he⟩ := he
   rw [Option.map_eq_some_iff] at he
   obtain ⟨cs', hsp, he⟩ := he
   cases he
   have hev := aplace_rel s.e hp
   obtain ⟨vs, T, hb, hr, ho, hS, hN, hlk⟩ := abox_rel s.e hcs
   have hgt := asplice_get hsp
   have hl1 := hr.1
   simp only [Array.length_toList] at hl1
   have hrun := run_storeVar_at (W := W) hk (o := off) hb hsz (by omega) (oneCells_rel hcr hone)
   have hnr := spliceV_rel hr hcr hsp
   rw [Array.length_toList, hsz] at hnr
   simp only [alay] at hl
   split at hl
   case isFalse => cases hl
   rename_i hq
   cases hl
   refine wp_skip (W' := W.setRow (β q) (vs.toList.take off ++ (a.eval y).cells.toList ++ vs.toList.drop (off + n)).toArray) ?_ ⟨g, β, ?_⟩
   ·unfold execOp
    rw [hop]
    simp only [Instr.storeAt, hev, Instr.sureAddr, Sem.run_bind, Sem.run_pure, Result.andThen_ok, hrun]
   ·rw [hd]
    exact s.setBox hlk hb (by simpa using hnr) hq
  ·rw [Option.bind_eq_some_iff] at he
   obtain ⟨p, hp, he⟩ := he
   rw [Option.map_eq_some_iff] at he
   obtain ⟨A2, hst, he⟩ := he
   cases he
   cases hl
   obtain ⟨ad, W', g', hev, hrun, w1, w2⟩ := astore_rel (P := c.P) s.w hk (aeval_rel s.e hp) hvr hn.symm hone hst
   refine wp_skip (W' := W') ?_ ⟨g', β, ?_⟩
   ·unfold execOp
    rw [hop]
    simp only [Instr.storeAt, hev, Instr.sureAddr, Sem.run_bind, Sem.run_pure, Result.andThen_ok, hrun]
   ·rw [hd]
    exact s.value (dst := none) undef_rel w1 w2 rfl
 all_goals
  simp only [aeff, hop] at he
  exact slot hop he
end
section
variable {c : ACtx} {call : FuncId → AFun} {f : FuncId} {nt : Nat} {E F : AEnv} {A H G H' : AHeap}
theorem aeval_same {x : Operand} (h : ∀ t, x = .tmp t → alook E t = alook F t) : aeval E x = aeval F x := by
 cases x with
 | tmp t => simp only [aeval, h t rfl]
 | _ => rfl
theorem aplace_same {x : Operand} (h : ∀ t, x = .tmp t → alook E t = alook F t) : aplace E x = aplace F x := by
 cases x with
 | tmp t => simp only [aplace, h t rfl]
 | _ => rfl
theorem aevals_same : ∀ {xs : List Operand}, (∀ x ∈ xs, aeval E x = aeval F x) → aevals E xs = aevals F xs
 | [], _ => rfl
 | x :: xs, h => by
   have ih : aevals E xs = aevals F xs := aevals_same fun y hy => h y (List.mem_cons_of_mem _ hy)
   simp only [aevals, h x List.mem_cons_self, ih]
theorem aparts_same : ∀ {ps : List (Nat × Operand)}, (∀ x ∈ ps.map (·.2), aeval E x = aeval F x) → aparts E ps = aparts F ps
 | [], _ => rfl
 | (i, x) :: ps, h => by
   have ih : aparts E ps = aparts F ps := aparts_same fun y hy => h y (by rw [List.map_cons]; exact List.mem_cons_of_mem _ hy)
   have hx := h x (by rw [List.map_cons]; exact List.mem_cons_self)
   simp only [aparts, hx, ih]
theorem aval1_same {op : Op} (h : ∀ x ∈ op.operands.toList, aeval E x = aeval F x) : aval1 c call E A op = aval1 c call F A op := by
 cases op
 case build t parts => simp only [aval1, aparts_same (E := E) (F := F) (ps := parts.toList) (by simpa [Op.operands] using h)]
 case buildSlice t n parts => simp only [aval1, aparts_same (E := E) (F := F) (ps := parts.toList) (by simpa [Op.operands] using h)]
 case makeFunc fn first captured =>
  have h1 : aevals E first.toList = aevals F first.toList := aevals_same fun x hx => h x (by simp [Op.operands]; exact .inl (by simpa using hx))
  have h2 : aevals E captured.toList = aevals F captured.toList := aevals_same fun x hx => h x (by simp [Op.operands]; exact .inr (by simpa using hx))
  simp only [aval1, h1, h2]
 case makeMap t r => cases r <;> simp only [aval1]
 case slice t x lo hi mx =>
  cases mx with
  | some m => simp only [aval1]
  | none =>
    have h1 := h x (by simp [Op.operands])
    have h2 : lo.map (aeval E) = lo.map (aeval F) := by
     cases lo with
     | none => rfl
     | some l => simp only [Option.map_some, h l (by simp [Op.operands])]
    have h3 : hi.map (aeval E) = hi.map (aeval F) := by
     cases hi with
     | none => rfl
     | some l => simp only [Option.map_some, h l (by simp [Op.operands])]
    simp only [aval1, h1, h2, h3]
 case call cl =>
  simp only [aval1]
  have ha : aevals E cl.args.toList = aevals F cl.args.toList := aevals_same fun x hx => h x (by simp [Op.operands, Call.operands]; exact .inr (by simpa using hx))
  cases hc : cl.callee with
  | value g => simp only [h g (by simp [Op.operands, Call.operands, hc]), ha]
  | builtin b => simp only [ha]
  | invoke r n => rfl
 all_goals simp only [aval1]
 all_goals simp only [Op.operands, List.mem_cons, List.not_mem_nil, or_false, forall_eq_or_imp, forall_eq] at h
 all_goals simp only [h]
structure Agree (ops : Array Oper) (o : Oper) (E F : AEnv) : Prop where
 look : ∀ t ∈ o.looksAt ops, alook E t = alook F t
 tgt : ∀ t ∈ o.looksAt ops, ∀ s off, alook E t = some (.place s off) → alook E s = alook F s
 new : ∀ d, o.dst = some d → noPlaceOf d E = true → noPlaceOf d F = true
theorem Agree.operand {ops : Array Oper} {o : Oper} (h : Agree ops o E F) {x : Operand} (hx : x ∈ o.op.operands.toList) : ∀ t, x = .tmp t → alook E t = alook F t := by
 intro t ht
 subst ht
 refine h.look t ?_
 unfold Oper.looksAt
 simp only [List.mem_append, List.mem_filterMap]
 exact .inl ⟨_, hx, rfl⟩
theorem Agree.box {ops : Array Oper} {o : Oper} (h : Agree ops o E F) {x : Operand} (hx : x ∈ o.op.operands.toList) {s off : Nat} (hp : aplace E x = some (s, off)) : abox E s = abox F s := by
 cases x with
 | tmp t =>
   have hm : t ∈ o.looksAt ops := by
    unfold Oper.looksAt
    simp only [List.mem_append, List.mem_filterMap]
    exact .inl ⟨_, hx, rfl⟩
   simp only [aplace] at hp
   split at hp
   ·rename_i cs hc
    cases hp
    simp only [abox, h.look _ hm]
   ·rename_i s' off' hc
    cases hp
    simp only [abox, h.tgt t hm _ _ hc]
   ·cases hp
 | _ => simp [aplace] at hp
theorem aslot_same {ops : Array Oper} {o : Oper} (h : Agree ops o E F) : aslot c call E A o.op = aslot c call F A o.op := by
 have hv : ∀ x ∈ o.op.operands.toList, aeval E x = aeval F x := fun x hx => aeval_same (h.operand hx)
 have hp : ∀ x ∈ o.op.operands.toList, aplace E x = aplace F x := fun x hx => aplace_same (h.operand hx)
 have hb : ∀ x ∈ o.op.operands.toList, ∀ s off, aplace F x = some (s, off) → abox E s = abox F s := fun x hx s off he => h.box hx ((hp x hx).trans he)
 have hval := aval1_same (c := c) (call := call) (A := A) hv
 generalize o.op = op at *
 cases op
 case load t x =>
  have hx : x ∈ (Op.load t x).operands.toList := by simp [Op.operands]
  simp only [aslot, hp x hx, hv x hx]
  split
  ·split
   ·rename_i s off hs
    rw [hb x hx s off hs]
   ·rfl
  ·rfl
 case fieldAddr t x i =>
  have hx : x ∈ (Op.fieldAddr t x i).operands.toList := by simp [Op.operands]
  simp only [aslot, hp x hx, hv x hx]
 case indexAddr t x i =>
  have hx : x ∈ (Op.indexAddr t x i).operands.toList := by simp [Op.operands]
  have hi : i ∈ (Op.indexAddr t x i).operands.toList := by simp [Op.operands]
  simp only [aslot, hp x hx, hv x hx, hv i hi]
 all_goals
  simp only [aslot]
  rw [hval]
theorem aeff_same {ops : Array Oper} {o : Oper} (h : Agree ops o E F) {r} (he : aeff c call f o E A = some r) : aeff c call f o F A = some r := by
 have hv : ∀ x ∈ o.op.operands.toList, aeval E x = aeval F x := fun x hx => aeval_same (h.operand hx)
 have hp : ∀ x ∈ o.op.operands.toList, aplace E x = aplace F x := fun x hx => aplace_same (h.operand hx)
 have hb : ∀ x ∈ o.op.operands.toList, ∀ s off, aplace F x = some (s, off) → abox E s = abox F s := fun x hx s off he => h.box hx ((hp x hx).trans he)
 have hs := aslot_same (c := c) (call := call) (A := A) h
 have hn := h.new
 cases hop : o.op <;> rw [hop] at hv hp hb hs <;> simp only [aeff, hop] at he ⊢
 case alloc t =>
  split at he
  ·rename_i z d hz hd
   try simp only [hz, hd]
   split at he
   ·rename_i hc; simp only [hc, if_true]; exact he
   ·rename_i hc
    simp only [hc, if_false]
    split at he
    ·rename_i hnn
     rw [if_pos (hn d hd hnn)]
     exact he
    ·cases he
  ·cases he
 case box t x =>
  have hx : x ∈ (Op.box t x).operands.toList := by simp [Op.operands]
  rw [← hv x hx]
  split at he
  ·rename_i z d hz hd
   try simp only [hz, hd]
   split at he
   ·rename_i hc; simp only [hc, if_true]; exact he
   ·rename_i hc
    simp only [hc, if_false]
    split at he
    ·rename_i hnn
     rw [if_pos (hn d hd hnn)]
     exact he
    ·cases he
  ·cases he
 case store t x y =>
  have hx : x ∈ (Op.store t x y).operands.toList := by simp [Op.operands]
  have hy : y ∈ (Op.store t x y).operands.toList := by simp [Op.operands]
  rw [← hv y hy, ← hv x hx, ← hp x hx]
  rw [← he]
  split
  ·rfl
  ·congr 1
   funext v
   split
   ·split
    ·rename_i s off hs'
     rw [hb x hx s off (by rw [← hp x hx]; exact hs')]
    ·rfl
   ·rfl
 all_goals
  rw [← hs]
  exact he
theorem auses_same {ops : Array Oper} {o : Oper} (h : Agree ops o E F) : auses E f c o = auses F f c o := by
 have hv : ∀ x ∈ o.op.operands.toList, aeval E x = aeval F x := fun x hx => aeval_same (h.operand hx)
 have hp : ∀ x ∈ o.op.operands.toList, aplace E x = aplace F x := fun x hx => aplace_same (h.operand hx)
 unfold auses
 generalize o.op = op at *
 cases op <;> simp only []
 case load t x =>
  have hx : x ∈ (Op.load t x).operands.toList := by simp [Op.operands]
  rw [hp x hx, hv x hx]
 case store t x y =>
  have hx : x ∈ (Op.store t x y).operands.toList := by simp [Op.operands]
  rw [hp x hx, hv x hx]
 case indexAddr t x i =>
  have hx : x ∈ (Op.indexAddr t x i).operands.toList := by simp [Op.operands]
  rw [hv x hx]
 case buildSlice t n parts => rw [aparts_same (E := E) (F := F) (ps := parts.toList) (by simpa [Op.operands] using hv)]
 case call cl =>
  have ha : aevals E cl.args.toList = aevals F cl.args.toList := aevals_same fun x hx => hv x (by simp [Op.operands, Call.operands]; exact .inr (by simpa using hx))
  rw [ha]
theorem aguard_same {ops : Array Oper} {o : Oper} (h : Agree ops o E F) : aguard ops E o = aguard ops F o := by
 unfold aguard
 cases hg : o.guard with
 | none => rfl
 | some p =>
   obtain ⟨j, w⟩ := p
   simp only
   cases hd : (ops[j]?).bind (·.dst) with
   | none => rfl
   | some t =>
     have ht : t ∈ o.looksAt ops := by
      unfold Oper.looksAt
      simp only [hg, hd, List.mem_append]
      exact .inr (by simp)
     simp only [h.look t ht]
structure Fr (u : Bool × Bool) (H H' G G' : AHeap) : Prop where
 ob : u.1 = true → G'.objs = H'.objs
 ob' : u.1 = false → G'.objs = G.objs ∧ H'.objs = H.objs
 bf : u.2 = true → G'.bufs = H'.bufs
 bf' : u.2 = false → G'.bufs = G.bufs ∧ H'.bufs = H.bufs
theorem Fr.none (H G : AHeap) : Fr (false, false) H H G G := ⟨fun h => (by cases h), fun _ => ⟨rfl, rfl⟩, fun h => (by cases h), fun _ => ⟨rfl, rfl⟩⟩
theorem Fr.all (H H' : AHeap) : Fr (true, true) H H' H H' := ⟨fun _ => rfl, fun h => (by cases h), fun _ => rfl, fun h => (by cases h)⟩
def Op.still : Op → Bool
 | .move _ | .assign _ | .pick _ _ _ | .build _ _ | .nilCheck _ | .binOp _ _ _ _ _ | .unOp _ _ _ | .convert _ _ _ | .makeFunc _ _ _ | .slice _ _ _ _ _ | .field _ _ _ | .index _ _ _ | .extract _ _ => true
 | _ => false
theorem aval1_still {op : Op} (hs : Op.still op = true) {x : AV} (h : aval1 c call E H op = some (x, H')) : H' = H ∧ aval1 c call E G op = some (x, G) := by
 cases op <;> simp only [Op.still] at hs <;> try (cases hs; done)
 case slice t y lo hi mx =>
  cases mx with
  | some m => simp only [aval1] at h; cases h
  | none =>
    simp only [aval1] at h ⊢
    split at h
    ·split at h
     ·cases h; rename_i hc; exact ⟨rfl, by simp [hc]⟩
     ·cases h
    ·split at h
     ·cases h; rename_i hc; exact ⟨rfl, by simp [hc]⟩
     ·cases h
    ·split at h
     ·cases h; rename_i hc; exact ⟨rfl, by simp [hc]⟩
     ·cases h
    ·split at h
     ·split at h
      ·cases h; rename_i hc; exact ⟨rfl, by simp only [if_pos hc]⟩
      ·cases h
     ·cases h
    ·split at h
     ·cases h; rename_i hc; exact ⟨rfl, by simp only [if_pos hc]⟩
     ·cases h
    ·split at h
     ·cases h; rename_i hc; exact ⟨rfl, by simp only [if_pos hc]⟩
     ·cases h
    ·split at h
     ·cases h; rename_i hc; exact ⟨rfl, by simp only [if_pos hc]⟩
     ·cases h
    ·cases h
 case index t y i =>
  simp only [aval1] at h ⊢
  split at h
  ·split at h
   ·rw [Option.map_eq_some_iff] at h
    obtain ⟨b, hb, h⟩ := h
    cases h
    rename_i hc
    exact ⟨rfl, by simp [hc, hb]⟩
   ·cases h
  ·split at h
   ·split at h
    ·rw [Option.map_eq_some_iff] at h
     obtain ⟨b, hb, h⟩ := h
     cases h
     rename_i hc
     exact ⟨rfl, by simp [hc, hb]⟩
    ·cases h
   ·cases h
  ·cases h
 case nilCheck y =>
  simp only [aval1] at h ⊢
  split at h <;> cases h <;> exact ⟨rfl, rfl⟩
 case pick a b d =>
  simp only [aval1] at h ⊢
  split at h <;> cases h <;> exact ⟨rfl, rfl⟩
 case makeFunc fn a b =>
  simp only [aval1] at h ⊢
  split at h <;> cases h <;> exact ⟨rfl, rfl⟩
 all_goals
  simp only [aval1] at h ⊢
  first
   | (rw [Option.map_eq_some_iff] at h
      obtain ⟨b, hb, h⟩ := h
      cases h
      exact ⟨rfl, by rw [hb]; rfl⟩)
   | (simp only [Option.bind_eq_some_iff, Option.map_eq_some_iff] at h
      obtain ⟨a, ha, b, hb, h⟩ := h
      cases h
      exact ⟨rfl, by simp [ha, hb]⟩)
   | (split at h
      ·rw [Option.map_eq_some_iff] at h
       obtain ⟨b, hb, h⟩ := h
       cases h
       exact ⟨rfl, by rw [hb]; rfl⟩
      ·cases h)
theorem adat_bufs_frame {x : AV} {d : Dat} (hb : H.bufs = G.bufs) (h : adat H x = some (d, H')) : H'.objs = H.objs ∧ adat G x = some (d, { G with bufs := H'.bufs }) := by
 cases x <;> simp only [adat] at h ⊢ <;> try (cases h; done)
 case d y => cases h; exact ⟨rfl, by rw [hb]⟩
 case nilS => cases h; exact ⟨rfl, by rw [hb]⟩
 case full r => cases h; exact ⟨rfl, by rw [hb]⟩
 case own tok len =>
  rw [Option.map_eq_some_iff] at h
  obtain ⟨rows, hr, h⟩ := h
  cases h
  refine ⟨rfl, ?_⟩
  have : arows G (.own tok len) = some rows := by rw [← hr]; simp only [arows, hb]
  rw [this]
  simp [AHeap.freeze, hb]
theorem adats_bufs_frame : ∀ {xs : List AV} {ds : List Dat} {H H' G : AHeap}, H.bufs = G.bufs → adats H xs = some (ds, H') → H'.objs = H.objs ∧ adats G xs = some (ds, { G with bufs := H'.bufs })
 | [], ds, H, H', G, hb, h => by cases h; exact ⟨rfl, by simp [adats, hb]⟩
 | x :: xs, ds, H, H', G, hb, h => by
   simp only [adats, Option.bind_eq_some_iff, Option.map_eq_some_iff] at h ⊢
   obtain ⟨⟨d, H1⟩, h1, ⟨ds', H2⟩, h2, h3⟩ := h
   cases h3
   obtain ⟨o1, e1⟩ := adat_bufs_frame hb h1
   obtain ⟨o2, e2⟩ := adats_bufs_frame (H := H1) (G := { G with bufs := H1.bufs }) rfl h2
   exact ⟨o2.trans o1, _, e1, _, e2, rfl⟩
theorem adats_free : ∀ {xs : List AV} {ds : List Dat} {H H' G : AHeap}, xs.all AV.ownfree = true → adats H xs = some (ds, H') → H' = H ∧ adats G xs = some (ds, G)
 | [], ds, H, H', G, hx, h => by cases h; exact ⟨rfl, rfl⟩
 | x :: xs, ds, H, H', G, hx, h => by
   simp only [adats, Option.bind_eq_some_iff, Option.map_eq_some_iff] at h ⊢
   simp only [List.all_cons, Bool.and_eq_true] at hx
   obtain ⟨⟨d, H1⟩, h1, ⟨ds', H2⟩, h2, h3⟩ := h
   cases h3
   have k1 : H1 = H ∧ adat G x = some (d, G) := by
    cases x <;> simp only [adat] at h1 ⊢ <;> try (cases h1; done)
    case d y => cases h1; exact ⟨rfl, rfl⟩
    case nilS => cases h1; exact ⟨rfl, rfl⟩
    case full r => cases h1; exact ⟨rfl, rfl⟩
    case own tok len => simp [AV.ownfree] at hx
   obtain ⟨rfl, k1⟩ := k1
   obtain ⟨rfl, k2⟩ := adats_free (G := G) hx.2 h2
   exact ⟨rfl, _, k1, _, k2, rfl⟩
theorem vcell_ownfree {v : Value} {x : AV} (h : vcell v = some x) : x.ownfree = true := by
 unfold vcell at h
 split at h <;> cases h <;> rfl
theorem vcells_ownfree : ∀ {vs : List Value} {xs : List AV}, vcells vs = some xs → xs.all AV.ownfree = true
 | [], _, h => by cases h; rfl
 | v :: vs, xs, h => by
   simp only [vcells, Option.bind_eq_some_iff, Option.map_eq_some_iff] at h
   obtain ⟨x, hx, ys, hy, rfl⟩ := h
   simp [vcell_ownfree hx, vcells_ownfree hy]
theorem aval_ownfree {v : Value} {x : AV} (h : aval v = some x) : x.cells.all AV.ownfree = true := by
 unfold aval at h
 split at h
 ·rw [Option.map_eq_some_iff] at h
  obtain ⟨xs, hx, rfl⟩ := h
  exact vcells_ownfree hx
 ·split at h
  ·cases h; rfl
  ·cases h
 ·split at h
  ·cases h; rfl
  ·cases h
 ·have := vcell_ownfree h
  unfold vcell at h
  split at h <;> cases h <;> rfl
theorem zeroT_ownfree {P : Program} {t : TypeId} {z : AV} (h : zeroT P t = some z) : z.cells.all AV.ownfree = true := by
 simp only [zeroT, Option.bind_eq_some_iff] at h
 obtain ⟨v, _, hz⟩ := h
 exact aval_ownfree hz
theorem asplice_ownfree {cs new cs' : List AV} {off : Nat} (h : asplice cs off new = some cs') (h1 : cs.all AV.ownfree = true) (h2 : new.all AV.ownfree = true) : cs'.all AV.ownfree = true := by
 unfold asplice at h
 split at h
 ·cases h
  simp only [List.all_append, Bool.and_eq_true, List.all_eq_true] at *
  exact ⟨⟨fun x hx => h1 x (List.mem_of_mem_take hx), h2⟩, fun x hx => h1 x (List.mem_of_mem_drop hx)⟩
 ·cases h
theorem afill_ownfree {place : Nat → Option (Nat × Nat)} : ∀ {ps : List (Nat × AV)} {cs cs' : List AV}, afill place cs ps = some cs' → cs.all AV.ownfree = true → (ps.all fun p => p.2.cells.all AV.ownfree) = true → cs'.all AV.ownfree = true
 | [], cs, cs', h, h1, _ => by cases h; exact h1
 | (i, x) :: ps, cs, cs', h, h1, h2 => by
   simp only [afill, Option.bind_eq_some_iff] at h
   simp only [List.all_cons, Bool.and_eq_true] at h2
   obtain ⟨p, hp, h⟩ := h
   split at h
   ·rw [Option.bind_eq_some_iff] at h
    obtain ⟨c1, e1, e2⟩ := h
    exact afill_ownfree e2 (asplice_ownfree e1 h1 h2.1) h2.2
   ·cases h
theorem flatten_all {l : List AV} (n : Nat) (h : l.all AV.ownfree = true) : (List.replicate n l).flatten.all AV.ownfree = true := by
 rw [List.all_eq_true] at h ⊢
 intro x hx
 rw [List.mem_flatten] at hx
 obtain ⟨q, hq, hx⟩ := hx
 rw [List.mem_replicate] at hq
 rw [hq.2] at hx
 exact h x hx
end
section
variable {c : ACtx} {call : FuncId → AFun} {f : FuncId} {nt : Nat} {E F : AEnv} {A H G H' : AHeap}
theorem aload_frame {n : Nat} {agg : Bool} {p y : AV} (h : aload H n agg p = some y) : (∃ id off, p = .ptr id off ∧ (H.objs = G.objs → aload G n agg p = some y)) ∨ (∃ ds, p = .sptr ds ∧ aload G n agg p = some y) ∨ (∃ t l i o, p = .eptr t l i o ∧ (H.bufs = G.bufs → aload G n agg p = some y)) := by
 cases p <;> simp only [aload] at h <;> try (cases h; done)
 case ptr id off => exact .inl ⟨_, _, rfl, fun e => by simp only [aload, ← e]; exact h⟩
 case sptr ds => exact .inr (.inl ⟨_, rfl, by simp only [aload]; exact h⟩)
 case eptr t l i o => exact .inr (.inr ⟨_, _, _, _, rfl, fun e => by simp only [aload, ← e]; exact h⟩)
theorem arows_frame {x : AV} (hb : H.bufs = G.bufs) : arows H x = arows G x := by
 cases x <;> simp only [arows, hb]
theorem arows_notown {x : AV} (hx : ∀ t l, x ≠ .own t l) : arows H x = arows G x := by
 cases x with
 | own t l => exact absurd rfl (hx t l)
 | d y => cases y <;> rfl
 | _ => rfl
theorem aappend_frame {P : Program} {e : TypeId} {sz : Nat} {x z : AV} {src : List (List Dat)} (hb : H.bufs = G.bufs) (h : aappend P e sz H x src = some (z, H')) : H'.objs = H.objs ∧ aappend P e sz G x src = some (z, { G with bufs := H'.bufs }) := by
 unfold aappend at h ⊢
 split at h
 case isFalse => cases h
 rename_i hc
 rw [if_pos hc]
 cases x <;> (try cases ‹Dat›) <;> simp only at h ⊢ <;> try (cases h; done)
 case d.nil =>
  split at h
  ·cases h; rename_i hs; exact ⟨rfl, by simp [hs, hb]⟩
  ·rename_i hs
   split at h
   ·cases h; rename_i hl; exact ⟨rfl, by simp [hs, hl, hb]⟩
   ·cases h
 case nilS =>
  split at h
  ·cases h; rename_i hs; exact ⟨rfl, by simp [hs, hb]⟩
  ·rename_i hs
   split at h
   ·cases h; rename_i hl; exact ⟨rfl, by simp [hs, hl, hb]⟩
   ·cases h
 case full rows =>
  split at h
  ·cases h; rename_i hs; exact ⟨rfl, by simp [hs, hb]⟩
  ·rename_i hs
   split at h
   ·cases h; rename_i hl; exact ⟨rfl, by rw [if_neg hs, if_pos hl, hb]⟩
   ·cases h
 case own tok len =>
  rw [← hb]
  split at h
  ·rename_i b hbt
   split at h
   ·cases h; rename_i hl; exact ⟨rfl, by simp [hbt, hl]⟩
   ·cases h
  ·cases h
theorem tonil_free {cs : List AV} (h : cs.all AV.ownfree = true) (b : Bool) : (bif b then cs.map AV.tonil else cs).all AV.ownfree = true := by
 cases b with
 | false => exact h
 | true =>
   simp only [cond_true, List.all_map, List.all_eq_true] at h ⊢
   intro x hx
   have := h x hx
   cases x <;> simp only [AV.tonil, Function.comp] <;> first | exact this | rfl
set_option maxHeartbeats 1000000 in
theorem aeff_frame {o : Oper} {w : Option (Nat × Slot)} (h1 : (auses E f c o).1 = true → H.objs = G.objs) (h2 : (auses E f c o).2 = true → H.bufs = G.bufs) (h : aeff c call f o E H = some (w, H')) :
  ∃ G', aeff c call f o E G = some (w, G') ∧ Fr (auses E f c o) H H' G G' := by
 -- both parts used: the heaps are one
 have both : auses E f c o = (true, true) → ∃ G', aeff c call f o E G = some (w, G') ∧ Fr (auses E f c o) H H' G G' := by
  intro hu
  rw [hu] at h1 h2 ⊢
  have : H = G := by
   obtain ⟨ho, hb⟩ := H
   obtain ⟨go, gb⟩ := G
   have e1 := h1 rfl
   have e2 := h2 rfl
   simp only at e1 e2
   rw [e1, e2]
  subst this
  exact ⟨H', h, .all _ _⟩
 -- operations that use nothing
 have still : Op.still o.op = true → ∃ G', aeff c call f o E G = some (w, G') ∧ Fr (auses E f c o) H H' G G' := by
  intro hs
  have hu : auses E f c o = (false, false) := by
   unfold auses
   cases hop : o.op <;> rw [hop] at hs <;> simp only [Op.still] at hs <;> first | rfl | cases hs
  have hae : ∀ A, aeff c call f o E A = (aval1 c call E A o.op).map fun r => (o.dst.map (·, Slot.v r.1), r.2) := by
   intro A
   cases hop : o.op <;> rw [hop] at hs <;> simp only [Op.still] at hs <;> first
    | (cases hs; done)
    | (simp only [aeff, hop, aslot, Option.map_map]; rfl)
  rw [hae, Option.map_eq_some_iff] at h
  obtain ⟨⟨x, H1⟩, hx, h⟩ := h
  cases h
  obtain ⟨rfl, hg⟩ := aval1_still (G := G) hs hx
  refine ⟨G, by rw [hae, hg]; rfl, ?_⟩
  rw [hu]
  exact .none _ _
 by_cases hst : Op.still o.op = true
 ·exact still hst
 cases hop : o.op <;> rw [hop] at hst <;> simp only [Op.still, not_true_eq_false] at hst <;> try (refine both ?_; unfold auses; rw [hop]; done)
 case alloc t =>
  cases hd : o.dst with
  | none =>
    simp only [aeff, hop, hd] at h
    cases hz : zeroT c.P t <;> simp [hz] at h
  | some d =>
    by_cases hc : (c.esc f).contains d = true
    ·have hu : auses E f c o = (true, false) := by unfold auses; rw [hop]; simp only [hd, hc]
     rw [hu] at h1 ⊢
     have e1 := h1 rfl
     simp only [aeff, hop, hd] at h ⊢
     cases hz : zeroT c.P t with
     | none => simp [hz] at h
     | some z =>
       simp only [hz, hc, if_true, Option.some.injEq, Prod.mk.injEq] at h ⊢
       obtain ⟨rfl, rfl⟩ := h
       exact ⟨{ G with objs := G.objs ++ [mkObj c t z.cells] }, ⟨by rw [e1], rfl⟩, fun _ => by simp [e1], fun h => (by cases h), fun h => (by cases h), fun _ => ⟨rfl, rfl⟩⟩
    ·have hc' : (c.esc f).contains d = false := by simpa using hc
     have hu : auses E f c o = (false, false) := by unfold auses; rw [hop]; simp only [hd, hc']
     rw [hu]
     simp only [aeff, hop, hd] at h ⊢
     cases hz : zeroT c.P t with
     | none => simp [hz] at h
     | some z =>
       simp only [hz, hc', Bool.false_eq_true, if_false] at h ⊢
       split at h
       ·rename_i hn
        cases h
        exact ⟨G, by rw [if_pos hn], .none _ _⟩
       ·cases h
 case box t x =>
  cases hd : o.dst with
  | none =>
    simp only [aeff, hop, hd] at h
    cases hz : aeval E x <;> simp [hz] at h
  | some d =>
    by_cases hc : (c.esc f).contains d = true
    ·have hu : auses E f c o = (true, false) := by unfold auses; rw [hop]; simp only [hd, hc]
     rw [hu] at h1 ⊢
     have e1 := h1 rfl
     simp only [aeff, hop, hd] at h ⊢
     cases hz : aeval E x with
     | none => simp [hz] at h
     | some z =>
       simp only [hz, hc, if_true, Option.some.injEq, Prod.mk.injEq] at h ⊢
       obtain ⟨rfl, rfl⟩ := h
       exact ⟨{ G with objs := G.objs ++ [mkObj c t z.cells] }, ⟨by rw [e1], rfl⟩, fun _ => by simp [e1], fun h => (by cases h), fun h => (by cases h), fun _ => ⟨rfl, rfl⟩⟩
    ·have hc' : (c.esc f).contains d = false := by simpa using hc
     have hu : auses E f c o = (false, false) := by unfold auses; rw [hop]; simp only [hd, hc']
     rw [hu]
     simp only [aeff, hop, hd] at h ⊢
     cases hz : aeval E x with
     | none => simp [hz] at h
     | some z =>
       simp only [hz, hc', Bool.false_eq_true, if_false] at h ⊢
       split at h
       ·rename_i hn
        cases h
        exact ⟨G, by rw [if_pos hn], .none _ _⟩
       ·cases h
 case load t x =>
  simp only [auses, hop] at h1 h2 both ⊢
  simp only [aeff, hop, aslot] at h ⊢
  cases hk : kindT c.P t with
  | none => simp [hk] at h
  | some k =>
    obtain ⟨n, agg⟩ := k
    simp only [hk] at h ⊢
    cases hp : aplace E x with
    | some q =>
      obtain ⟨s, off⟩ := q
      simp only [hp] at h ⊢
      rw [Option.map_eq_some_iff] at h
      obtain ⟨r, hr, h⟩ := h
      rw [Option.bind_eq_some_iff] at hr
      obtain ⟨cs, hcs, hr⟩ := hr
      rw [Option.map_eq_some_iff] at hr
      obtain ⟨v, hv, hr⟩ := hr
      subst hr
      cases h
      exact ⟨G, by simp [hcs, hv], .none _ _⟩
    | none =>
      simp only [hp] at h h1 h2 both ⊢
      rw [Option.map_eq_some_iff] at h
      obtain ⟨r, hr, h⟩ := h
      rw [Option.bind_eq_some_iff] at hr
      obtain ⟨p, hpp, hr⟩ := hr
      rw [Option.map_eq_some_iff] at hr
      obtain ⟨v, hv, hr⟩ := hr
      subst hr
      cases h
      simp only [hpp] at h1 h2 ⊢
      rcases aload_frame (G := G) hv with ⟨id, off, rfl, hl⟩ | ⟨ds, rfl, hl⟩ | ⟨t', l, i, o', rfl, hl⟩
      ·simp only at h1 h2 ⊢
       have e := h1 (by simp)
       exact ⟨G, by simp [hl e], fun _ => e.symm, fun h => (by cases h), fun h => (by cases h), fun _ => ⟨rfl, rfl⟩⟩
      ·exact ⟨G, by simp [hl], .none _ _⟩
      ·simp only at h1 h2 ⊢
       have e := h2 (by simp)
       exact ⟨G, by simp [hl e], fun h => (by cases h), fun _ => ⟨rfl, rfl⟩, fun _ => e.symm, fun h => (by cases h)⟩
 case store t x y =>
  cases hp : aplace E x with
  | none =>
    simp only [auses, hop, hp] at h1 h2 both ⊢
    simp only [aeff, hop, hp] at h both ⊢
    split at h
    ·cases h
    rename_i hd
    rw [Option.bind_eq_some_iff] at h
    obtain ⟨v, hv, h⟩ := h
    split at h
    case isFalse => cases h
    rename_i hc
    rw [Option.bind_eq_some_iff] at h
    obtain ⟨p, hpp, h⟩ := h
    rw [Option.map_eq_some_iff] at h
    obtain ⟨H1, hst, h⟩ := h
    cases h
    cases p with
    | ptr id off =>
      simp only [hpp] at h1 h2 ⊢
      have e1 := h1 (by simp)
      simp only [astore] at hst
      split at hst
      case h_3 => cases hst
      case h_1 =>
       rename_i cs hcs
       rw [Option.map_eq_some_iff] at hst
       obtain ⟨cs', hsp, hst⟩ := hst
       cases hst
       have hkey : astore G v.cells (.ptr id off) = some { G with objs := G.objs.set id (.cells cs') } := by simp only [astore, ← e1, hcs, hsp, Option.map_some]
       refine ⟨{ G with objs := G.objs.set id (.cells cs') }, ?_, fun _ => by simp [e1], fun h => (by cases h), fun h => (by cases h), fun _ => ⟨rfl, rfl⟩⟩
       simp only [hv, Option.bind_some]
       rw [if_pos hc]
       simp [hkey]
      case h_2 =>
       rename_i T cs hcs
       rw [Option.map_eq_some_iff] at hst
       obtain ⟨cs', hsp, hst⟩ := hst
       cases hst
       have hkey : astore G v.cells (.ptr id off) = some { G with objs := G.objs.set id (.tcells T cs') } := by simp only [astore, ← e1, hcs, hsp, Option.map_some]
       refine ⟨{ G with objs := G.objs.set id (.tcells T cs') }, ?_, fun _ => by simp [e1], fun h => (by cases h), fun h => (by cases h), fun _ => ⟨rfl, rfl⟩⟩
       simp only [hv, Option.bind_some]
       rw [if_pos hc]
       simp [hkey]
    | eptr tok len i o' =>
      simp only [hpp] at h1 h2 ⊢
      have e2 := h2 (by simp)
      simp only [astore] at hst
      split at hst
      case h_2 => cases hst
      rename_i b hb
      split at hst
      case isFalse => cases hst
      rename_i hcnd
      split at hst
      case h_2 => cases hst
      rename_i row hrow
      rw [Option.bind_eq_some_iff] at hst
      obtain ⟨⟨ds, H2⟩, had, hst⟩ := hst
      simp only at hst
      split at hst
      case isFalse => cases hst
      rename_i hfit
      split at hst
      case h_2 => cases hst
      rename_i b' hb'
      split at hst
      case isFalse => cases hst
      rename_i hfz
      cases hst
      obtain ⟨k1, k2⟩ := adats_bufs_frame (G := G) e2 had
      have hkey : astore G v.cells (.eptr tok len i o') = some { G with bufs := H2.bufs.set tok { b' with rows := b'.rows.set i (row.take o' ++ ds ++ row.drop (o' + ds.length)) } } := by
       simp only [astore, ← e2, hb]
       rw [if_pos hcnd]
       simp only [hrow, k2, Option.bind_some]
       rw [if_pos hfit]
       simp only [hb']
       rw [if_pos hfz]
      refine ⟨{ G with bufs := H2.bufs.set tok { b' with rows := b'.rows.set i (row.take o' ++ ds ++ row.drop (o' + ds.length)) } }, ?_, fun h => (by cases h), fun _ => ⟨rfl, k1⟩, fun _ => rfl, fun h => (by cases h)⟩
      simp only [hv, Option.bind_some]
      rw [if_pos hc]
      simp [hkey]
    | _ => simp [astore] at hst
  | some q =>
    obtain ⟨s, off⟩ := q
    simp only [auses, hop, hp] at h1 h2 both ⊢
    simp only [aeff, hop, hp] at h ⊢
    split at h
    ·cases h
    rename_i hd
    rw [Option.bind_eq_some_iff] at h
    obtain ⟨v, hv, h⟩ := h
    split at h
    case isFalse => cases h
    rename_i hc
    rw [Option.bind_eq_some_iff] at h
    obtain ⟨cs, hcs, h⟩ := h
    rw [Option.map_eq_some_iff] at h
    obtain ⟨cs', hsp, h⟩ := h
    cases h
    refine ⟨G, ?_, .none _ _⟩
    simp only [hd, hv, Option.bind_some]
    rw [if_pos hc]
    simp [hcs, hsp]
 case fieldAddr t x i =>
  simp only [auses, hop] at h1 h2 both ⊢
  simp only [aeff, hop, aslot] at h ⊢
  refine ⟨G, ?_, ?_⟩
  all_goals
   rw [Option.map_eq_some_iff] at h
   obtain ⟨r, hr, h⟩ := h
   split at hr
   case h_2 => cases hr
   rename_i off n agg hf
   split at hr
   ·cases hr
   rename_i hn
   split at hr
   ·rename_i s o' hp
    cases hr; cases h
    first
     | exact .none _ _
     | simp [hn, hp]
   ·rename_i hp
    split at hr
    ·rename_i hv; cases hr; cases h; first | exact .none _ _ | simp [hn, hp, hv]
    ·rename_i hv; cases hr; cases h; first | exact .none _ _ | simp [hn, hp, hv]
    ·rename_i hv; cases hr; cases h; first | exact .none _ _ | simp [hn, hp, hv]
    ·cases hr
 case indexAddr t x i =>
  simp only [aeff, hop, aslot] at h ⊢
  rw [Option.map_eq_some_iff] at h
  obtain ⟨r, hr, h⟩ := h
  split at hr
  case h_2 => cases hr
  rename_i k n hi
  split at hr
  ·rename_i len sz agg ha
   split at hr
   case h_2 => cases hr
   rename_i s o' hp
   split at hr
   case isFalse => cases hr
   rename_i hc
   cases hr; cases h
   have hne : ∀ t' l, aeval E x ≠ some (.own t' l) := by
    intro t' l hv
    cases x with
    | tmp q =>
      simp only [aplace] at hp
      simp only [aeval] at hv
      split at hp <;> simp_all
    | _ => simp [aplace] at hp
   have hu : auses E f c o = (false, false) := by
    unfold auses
    rw [hop]
    show (match aeval E x with | some (.own _ _) => (false, true) | _ => (false, false)) = (false, false)
    cases hv : aeval E x with
    | none => rfl
    | some v => cases v with
      | own t' l => exact absurd hv (hne _ _)
      | _ => rfl
   rw [hu]
   exact ⟨G, by simp [hi, hp, hc], .none _ _⟩
  ·split at hr
   case h_2 => cases hr
   rename_i ha _ _ e v hel hv
   rw [Option.map_eq_some_iff] at hr
   obtain ⟨p, hpp, hr⟩ := hr
   cases hr; cases h
   by_cases hown : ∃ t' l, v = .own t' l
   ·obtain ⟨t', l, rfl⟩ := hown
    have hu : auses E f c o = (false, true) := by
     unfold auses
     rw [hop]
     simp only [hv]
    rw [hu] at h1 h2 ⊢
    have e2 := h2 rfl
    refine ⟨G, ?_, fun h => (by cases h), fun _ => ⟨rfl, rfl⟩, fun _ => e2.symm, fun h => (by cases h)⟩
    have : aindex e.2 G n (.own t' l) = some p := by rw [← hpp]; simp only [aindex, e2]
    simp [hi, hel, hv, this]
   ·have hne : ∀ t' l, v ≠ .own t' l := fun t' l hh => hown ⟨t', l, hh⟩
    have hu : auses E f c o = (false, false) := by
     unfold auses
     rw [hop]
     simp only [hv]
     split
     ·rename_i hvv; cases hvv; exact absurd rfl (hne _ _)
     ·rfl
    rw [hu]
    refine ⟨G, ?_, .none _ _⟩
    have : aindex e.2 G n v = some p := by
     rw [← hpp]
     unfold aindex
     split
     ·exact absurd rfl (hne _ _)
     ·rw [arows_notown (H := G) hne]
    simp [hi, hel, hv, this]
 case buildSlice t n parts =>
  simp only [aeff, hop, aslot, aval1] at h ⊢
  rw [Option.map_eq_some_iff] at h
  obtain ⟨r, hr, h⟩ := h
  rw [Option.map_eq_some_iff] at hr
  obtain ⟨r', hr', hrr⟩ := hr
  subst hrr
  split at hr'
  case h_2 => cases hr'
  rename_i e ps hel hps
  split at hr'
  case h_2 => cases hr'
  rename_i z hz
  split at hr'
  case isFalse => cases hr'
  rename_i hc
  rw [Option.bind_eq_some_iff] at hr'
  obtain ⟨cs, hcs, hr'⟩ := hr'
  rw [Option.map_eq_some_iff] at hr'
  obtain ⟨⟨ds, H1⟩, hds, hr'⟩ := hr'
  subst hr'
  cases h
  by_cases hfree : (ps.all fun p => p.2.cells.all AV.ownfree) = true
  ·have hu : auses E f c o = (false, false) := by
    unfold auses
    rw [hop]
    simp only [hps, hfree, Bool.not_true]
   rw [hu]
   have hcf := afill_ownfree hcs (flatten_all n (zeroT_ownfree hz)) hfree
   obtain ⟨e1, e2⟩ := adats_free (G := G) (tonil_free hcf (c.nilT e.1)) hds
   subst e1
   exact ⟨G, by simp [hel, hps, hz, hc, hcs, adatsT, e2], .none _ _⟩
  ·have hu : auses E f c o = (false, true) := by
    unfold auses
    rw [hop]
    have : (ps.all fun p => p.2.cells.all AV.ownfree) = false := by simpa using hfree
    simp only [hps, this, Bool.not_false]
   rw [hu] at h1 h2 ⊢
   obtain ⟨e1, e2⟩ := adats_bufs_frame (G := G) (h2 rfl) hds
   exact ⟨{ G with bufs := H1.bufs }, by simp [hel, hps, hz, hc, hcs, adatsT, e2], fun h => (by cases h), fun _ => ⟨rfl, e1⟩, fun _ => rfl, fun h => (by cases h)⟩
 case makeMap t r =>
  have hu : auses E f c o = (true, false) := by unfold auses; rw [hop]
  rw [hu] at h1 h2 ⊢
  have e1 := h1 rfl
  cases r with
  | some r => simp [aeff, hop, aslot, aval1] at h
  | none =>
    simp only [aeff, hop, aslot, aval1] at h ⊢
    split at h
    ·rename_i hm
     simp only [Option.map_some, Option.some.injEq, Prod.mk.injEq] at h
     obtain ⟨rfl, rfl⟩ := h
     exact ⟨{ G with objs := G.objs ++ [.map []] }, by simp [e1], fun _ => by simp [e1], fun h => (by cases h), fun h => (by cases h), fun _ => ⟨rfl, rfl⟩⟩
    ·simp at h
 case range t x =>
  have hu : auses E f c o = (true, false) := by unfold auses; rw [hop]
  rw [hu] at h1 h2 ⊢
  have e1 := h1 rfl
  simp only [aeff, hop, aslot, aval1] at h ⊢
  split at h
  ·split at h
   ·rename_i hst
    simp only [Option.map_some, Option.some.injEq, Prod.mk.injEq] at h
    obtain ⟨rfl, rfl⟩ := h
    rename_i s hs
    exact ⟨{ G with objs := G.objs ++ [.iter s 0] }, by simp [hst, e1], fun _ => by simp [e1], fun h => (by cases h), fun h => (by cases h), fun _ => ⟨rfl, rfl⟩⟩
   ·simp at h
  ·simp at h
 case next x s =>
  have hu : auses E f c o = (true, false) := by unfold auses; rw [hop]
  rw [hu] at h1 h2 ⊢
  have e1 := h1 rfl
  simp only [aeff, hop, aslot, aval1] at h ⊢
  cases s with
  | false => simp at h
  | true =>
    simp only [if_true, Option.map_map, Option.map_eq_some_iff] at h
    obtain ⟨⟨y, H1⟩, hx, h⟩ := h
    simp only [Function.comp, Prod.mk.injEq] at h
    obtain ⟨rfl, rfl⟩ := h
    rw [Option.bind_eq_some_iff] at hx
    obtain ⟨p, hp, hx⟩ := hx
    have key : anext G p = some (y, { G with objs := H1.objs }) ∧ H1.bufs = H.bufs := by
     unfold anext at hx ⊢
     rw [← e1]
     split at hx
     ·split at hx
      ·rename_i hq
       split at hx
       ·rename_i hps; cases hx; exact ⟨by simp [hq, hps], rfl⟩
       ·rename_i hps; cases hx; exact ⟨by simp [hq, hps, e1], rfl⟩
      ·cases hx
     ·cases hx
    exact ⟨{ G with objs := H1.objs }, by simp [hp, key.1], fun _ => rfl, fun h => (by cases h), fun h => (by cases h), fun _ => ⟨rfl, key.2⟩⟩
 case lookup t m k ok =>
  have hu : auses E f c o = (true, false) := by unfold auses; rw [hop]
  rw [hu] at h1 h2 ⊢
  have e1 := h1 rfl
  have e3 : ∀ a b, alookup c.P t H a b ok = alookup c.P t G a b ok := fun a b => by unfold alookup; rw [e1]
  simp only [aeff, hop, aslot, aval1] at h ⊢
  split at h
  ·rename_i a b ha hb
   simp only [Option.map_map, Option.map_eq_some_iff] at h
   obtain ⟨x, hx, h⟩ := h
   simp only [Function.comp, Prod.mk.injEq] at h
   obtain ⟨rfl, rfl⟩ := h
   rw [e3] at hx
   exact ⟨G, by simp [hx], fun _ => e1.symm, fun h => (by cases h), fun h => (by cases h), fun _ => ⟨rfl, rfl⟩⟩
  ·simp at h
 case mapUpdate t m k x =>
  have hu : auses E f c o = (true, false) := by unfold auses; rw [hop]
  rw [hu] at h1 h2 ⊢
  have e1 := h1 rfl
  simp only [aeff, hop, aslot, aval1] at h ⊢
  split at h
  case h_2 => simp at h
  rename_i a b v ha hb hv
  simp only [Option.map_map, Option.map_eq_some_iff] at h
  obtain ⟨H1, hx, h⟩ := h
  simp only [Function.comp, Prod.mk.injEq] at h
  obtain ⟨rfl, rfl⟩ := h
  have key : amapUpdate c.P t G a b v = some { G with objs := H1.objs } ∧ H1.bufs = H.bufs := by
   unfold amapUpdate at hx ⊢
   rw [← e1]
   split at hx
   ·split at hx
    ·split at hx
     ·rw [Option.map_eq_some_iff] at hx
      obtain ⟨es, he, hx⟩ := hx
      cases hx
      rename_i hq hpl
      exact ⟨by simp [hq, hpl, he], rfl⟩
     ·cases hx
    ·cases hx
   ·cases hx
  exact ⟨{ G with objs := H1.objs }, by simp [key.1], fun _ => rfl, fun h => (by cases h), fun h => (by cases h), fun _ => ⟨rfl, key.2⟩⟩
 case call cl =>
  cases hcal : cl.callee with
  | value g => exact both (by unfold auses; rw [hop]; simp only [hcal])
  | invoke r nm => exact both (by unfold auses; rw [hop]; simp only [hcal])
  | builtin b =>
    simp only [aeff, hop, aslot, aval1, hcal] at h ⊢
    simp only [Option.map_map, Option.map_eq_some_iff] at h
    obtain ⟨⟨x, H1⟩, hx, h⟩ := h
    simp only [Function.comp, Prod.mk.injEq] at h
    obtain ⟨rfl, rfl⟩ := h
    rw [Option.bind_eq_some_iff] at hx
    obtain ⟨xs, hxs, hx⟩ := hx
    have wrap : ∀ {G'}, abuiltin c.P b cl.argTypes xs G = some (x, G') → Option.map (fun r => (Option.map (fun x => (x, r.1)) o.dst, r.2)) (Option.map (fun r => (Slot.v r.1, r.2)) ((aevals E cl.args.toList).bind fun args => abuiltin c.P b cl.argTypes args G)) = some (Option.map (fun x_1 => (x_1, Slot.v x)) o.dst, G') := by
     intro G' hg
     rw [hxs]
     simp [hg]
    unfold abuiltin at hx
    split at hx
    ·rename_i y
     split at hx
     case h_2 => cases hx
     rename_i t ht
     rw [Option.map_eq_some_iff] at hx
     obtain ⟨n, hn, hx⟩ := hx
     cases hx
     by_cases hm : ∃ id, y = .mapr id
     ·obtain ⟨id, rfl⟩ := hm
      have hu : auses E f c o = (true, false) := by unfold auses; rw [hop]; simp only [hcal, hxs]
      rw [hu] at h1 h2 ⊢
      have e1 := h1 rfl
      refine ⟨G, wrap ?_, fun _ => e1.symm, fun h => (by cases h), fun h => (by cases h), fun _ => ⟨rfl, rfl⟩⟩
      have : alen G (lenT c.P t) (.mapr id) = some n := by rw [← hn]; simp only [alen, e1]
      simp [abuiltin, ht, this]
     ·have hu : auses E f c o = (false, false) := by
       unfold auses; rw [hop]; simp only [hcal, hxs]
       split
       ·rename_i hh; cases hh; exact absurd ⟨_, rfl⟩ hm
       ·rfl
       ·rename_i hh; cases hh
      rw [hu]
      refine ⟨G, wrap ?_, .none _ _⟩
      have : alen G (lenT c.P t) y = some n := by
       rw [← hn]
       cases y with
       | mapr id => exact absurd ⟨_, rfl⟩ hm
       | d q => cases q <;> rfl
       | _ => rfl
      simp [abuiltin, ht, this]
    ·rename_i y z
     have hu : auses E f c o = (false, true) := by unfold auses; rw [hop]; simp only [hcal]
     rw [hu] at h1 h2 ⊢
     have e2 := h2 rfl
     split at hx
     case h_2 => cases hx
     rename_i t u ht
     split at hx
     case isFalse =>
      rename_i htu
      have hx' := hx
      unfold aappStr at hx
      split at hx
      case h_2 => cases hx
      rename_i s0 e0 hsu he
      obtain ⟨k1, k2⟩ := aappend_frame (G := G) e2 hx
      refine ⟨{ G with bufs := H1.bufs }, wrap ?_, fun h => (by cases h), fun _ => ⟨rfl, k1⟩, fun _ => rfl, fun h => (by cases h)⟩
      simp [abuiltin, ht, htu, aappStr, hsu, he, k2]
     rename_i htu
     split at hx
     case h_2 => cases hx
     rename_i e he
     rw [Option.bind_eq_some_iff] at hx
     obtain ⟨src, hs, hx⟩ := hx
     obtain ⟨k1, k2⟩ := aappend_frame (G := G) e2 hx
     refine ⟨{ G with bufs := H1.bufs }, wrap ?_, fun h => (by cases h), fun _ => ⟨rfl, k1⟩, fun _ => rfl, fun h => (by cases h)⟩
     rw [arows_frame e2] at hs
     simp [abuiltin, ht, htu, htu ▸ he, hs, k2]
    ·have := both (by unfold auses; rw [hop]; simp only [hcal])
     simpa only [aeff, hop, aslot, aval1, hcal] using this
    ·have := both (by unfold auses; rw [hop]; simp only [hcal])
     simpa only [aeff, hop, aslot, aval1, hcal] using this
    ·rename_i m k
     have hu : auses E f c o = (true, false) := by unfold auses; rw [hop]; simp only [hcal]
     rw [hu] at h1 h2 ⊢
     have e1 := h1 rfl
     split at hx
     case h_2 => cases hx
     rename_i t ht
     rw [Option.map_eq_some_iff] at hx
     obtain ⟨H2, hd, hx⟩ := hx
     cases hx
     have key : adelete c.P t G m k = some { G with objs := H1.objs } ∧ H1.bufs = H.bufs := by
      unfold adelete at hd ⊢
      rw [← e1]
      split at hd
      ·split at hd
       ·rw [Option.map_eq_some_iff] at hd
        obtain ⟨es, he, hd⟩ := hd
        cases hd
        rename_i hq
        exact ⟨by simp [hq, he], rfl⟩
       ·cases hd
      ·cases hd
     exact ⟨{ G with objs := H1.objs }, wrap (by simp [abuiltin, ht, key.1]), fun _ => rfl, fun h => (by cases h), fun h => (by cases h), fun _ => ⟨rfl, key.2⟩⟩
    ·have hu : auses E f c o = (false, false) := by unfold auses; rw [hop]; simp only [hcal]
     rw [hu]
     rw [Option.map_eq_some_iff] at hx
     obtain ⟨y, hy, hx⟩ := hx
     cases hx
     exact ⟨G, wrap (by simp [abuiltin, hy]), .none _ _⟩
    ·have hu : auses E f c o = (false, false) := by unfold auses; rw [hop]; simp only [hcal]
     rw [hu]
     rw [Option.map_eq_some_iff] at hx
     obtain ⟨y, hy, hx⟩ := hx
     cases hx
     exact ⟨G, wrap (by simp [abuiltin, hy]), .none _ _⟩
    ·cases hx
end
section
variable {c : ACtx} {call : FuncId → AFun} {f : FuncId} {nt : Nat} {ops : Array Oper}
def bits (acc : Array Nat) (o : Oper) : Nat := o.after.foldl (fun s e => if Region.binds .any e then s ||| 2 ^ e.on ||| acc.getD e.on 0 else s) 0
theorem bits_spec {acc : Array Nat} {o : Oper} {i : Nat} (h : (bits acc o).testBit i = true) : ∃ e ∈ o.after, Region.binds .any e = true ∧ (e.on = i ∨ (acc.getD e.on 0).testBit i = true) := by
 have key : ∀ (l : List Edge) (s : Nat), ((l.foldl (fun s e => if Region.binds .any e then s ||| 2 ^ e.on ||| acc.getD e.on 0 else s) s).testBit i = true) →
   s.testBit i = true ∨ ∃ e ∈ l, Region.binds .any e = true ∧ (e.on = i ∨ (acc.getD e.on 0).testBit i = true) := by
  intro l
  induction l with
  | nil => intro s h; exact .inl h
  | cons e l ih =>
    intro s h
    rw [List.foldl_cons] at h
    rcases ih _ h with h1 | ⟨e', he', h1⟩
    ·split at h1
     ·rename_i hb
      rw [Nat.testBit_or, Nat.testBit_or, Bool.or_eq_true, Bool.or_eq_true] at h1
      rcases h1 with (h1 | h1) | h1
      ·exact .inl h1
      ·rw [Nat.testBit_two_pow] at h1
       exact .inr ⟨e, List.mem_cons_self, hb, .inl (by simpa using h1)⟩
      ·exact .inr ⟨e, List.mem_cons_self, hb, .inr h1⟩
     ·exact .inl h1
    ·exact .inr ⟨e', List.mem_cons_of_mem _ he', h1⟩
 unfold bits at h
 rw [← Array.foldl_toList] at h
 rcases key _ _ h with h1 | ⟨e, he, h1⟩
 ·simp at h1
 ·exact ⟨e, by simpa using he, h1⟩
theorem fold_spec : ∀ (l : List Oper) (acc : Array Nat), ∃ R, R = l.foldl (fun acc o => acc.push (bits acc o)) acc ∧ R.size = acc.size + l.length ∧ (∀ k, k < acc.size → R[k]? = acc[k]?) ∧
  ∀ (m : Nat) (o : Oper), l[m]? = some o → ∃ am : Array Nat, am.size = acc.size + m ∧ (∀ k, k < acc.size + m → R[k]? = am[k]?) ∧ R[acc.size + m]? = some (bits am o)
 | [], acc => ⟨acc, rfl, rfl, fun _ _ => rfl, fun m o h => by simp at h⟩
 | x :: l, acc => by
   obtain ⟨R, hR, hs, hp, hm⟩ := fold_spec l (acc.push (bits acc x))
   simp only [Array.size_push] at hs hp hm
   refine ⟨R, by rw [hR]; rfl, by simp; omega, fun k hk => by rw [hp k (by omega), Array.getElem?_push_lt (by omega), Array.getElem?_eq_getElem hk], fun m o ho => ?_⟩
   cases m with
   | zero =>
     simp at ho
     subst ho
     refine ⟨acc, rfl, fun k hk => ?_, ?_⟩
     ·rw [hp k (by omega), Array.getElem?_push_lt (by omega), Array.getElem?_eq_getElem (by omega)]
     ·rw [Nat.add_zero, hp _ (by omega), Array.getElem?_push_size]
   | succ m =>
     obtain ⟨am, h1, h2, h3⟩ := hm m o (by simpa using ho)
     exact ⟨am, by omega, fun k hk => h2 k (by omega), by rw [← h3]; congr 1; omega⟩
theorem before_spec {j i : Nat} (h : ((Region.before ops).getD j 0).testBit i = true) :
  ∃ o e, ops[j]? = some o ∧ e ∈ o.after ∧ Region.binds .any e = true ∧ (e.on = i ∨ (e.on < j ∧ ((Region.before ops).getD e.on 0).testBit i = true)) := by
 have hb : Region.before ops = ops.toList.foldl (fun acc o => acc.push (bits acc o)) #[] := by
  unfold Region.before bits
  rw [← Array.foldl_toList]
 obtain ⟨R, hR, hs, _, hm⟩ := fold_spec ops.toList #[]
 rw [hb, ← hR] at h ⊢
 simp only [List.size_toArray, List.length_nil, Nat.zero_add, Array.length_toList] at hs hm
 have hj : j < R.size := by
  rcases Nat.lt_or_ge j R.size with h' | h'
  ·exact h'
  ·rw [Array.getD_eq_getD_getElem?, Array.getElem?_eq_none h'] at h
   simp at h
 have hjo : ops.toList[j]? = some (ops[j]'(by omega)) := by rw [Array.getElem?_toList, Array.getElem?_eq_getElem]
 obtain ⟨am, h1, h2, h3⟩ := hm j _ hjo
 rw [Array.getD_eq_getD_getElem?, h3] at h
 obtain ⟨e, he, hbn, h4⟩ := bits_spec h
 refine ⟨_, e, by rw [← Array.getElem?_toList]; exact hjo, he, hbn, ?_⟩
 rcases h4 with h4 | h4
 ·exact .inl h4
 ·refine .inr ?_
  rcases Nat.lt_or_ge e.on j with hlt | hge
  ·refine ⟨hlt, ?_⟩
   rw [Array.getD_eq_getD_getElem?, h2 _ hlt, ← Array.getD_eq_getD_getElem?]
   exact h4
  ·rw [Array.getD_eq_getD_getElem?, Array.getElem?_eq_none (by omega)] at h4
   simp at h4
def Closed (ops : Array Oper) (L : Array Bool) : Prop := ∀ (j : Nat) (o : Oper), ops[j]? = some o → L[j]? = some true → ∀ e ∈ o.after, Region.binds .any e = true → L[e.on]? = some true
theorem before_listed {L : Array Bool} (hc : Closed ops L) : ∀ (j : Nat) (i : Nat) (o : Oper), ops[j]? = some o → (∀ e ∈ o.after, Region.binds .any e = true → L[e.on]? = some true) → ((Region.before ops).getD j 0).testBit i = true → L[i]? = some true := by
 intro j
 induction j using Nat.strongRecOn with
 | ind j ih =>
   intro i o ho he h
   obtain ⟨o', e, ho', hmem, hb, h1⟩ := before_spec h
   rw [ho] at ho'
   cases ho'
   have hl := he e hmem hb
   rcases h1 with rfl | ⟨hlt, h1⟩
   ·exact hl
   ·obtain ⟨o2, e2, ho2, _⟩ := before_spec h1
    exact ih e.on hlt i o2 ho2 (hc _ _ ho2 hl) h1
theorem aord_comm (i j : Nat) : aord ops i j = aord ops j i := by
 unfold aord
 rw [Nat.max_comm, Nat.min_comm]
theorem ord_iff {L : Array Bool} (hc : Closed ops L) {k j : Nat} {o : Oper} (ho : ops[k]? = some o) (hk : L[k]? ≠ some true) (he : ∀ e ∈ o.after, Region.binds .any e = true → L[e.on]? = some true) (hne : j ≠ k) (h : aord ops j k = true) :
  (j < k ↔ L[j]? = some true) := by
 unfold aord at h
 rcases Nat.lt_or_gt_of_ne hne with hlt | hgt
 ·rw [Nat.max_eq_right (by omega), Nat.min_eq_left (by omega)] at h
  exact ⟨fun _ => before_listed hc k j o ho he h, fun _ => hlt⟩
 ·rw [Nat.max_eq_left (by omega), Nat.min_eq_right (by omega)] at h
  refine ⟨fun h' => by omega, fun hl => absurd ?_ hk⟩
  obtain ⟨o2, e2, ho2, _⟩ := before_spec h
  exact before_listed hc j k o2 ho2 (hc _ _ ho2 hl) h
structure Stat (ops : Array Oper) : Prop where
 edge : ∀ (i : Nat) (x : Oper), ops[i]? = some x → ∀ e ∈ x.after, Region.binds .any e = true → e.on < i
 ord : ∀ (i j : Nat) (x y : Oper), ops[i]? = some x → ops[j]? = some y → i ≠ j → (∃ d, x.dst = some d ∧ d ∈ anames ops y) → aord ops i j = true
 addr : ∀ (i : Nat) (x : Oper) (t : Nat), ops[i]? = some x → Op.addrOf x.op = some t → ∀ (j : Nat) (y : Oper), ops[j]? = some y → y.dst = some t → j < i ∧ Op.lays y.op = false
theorem stat_of (h : adrawStatic ops = true) : Stat ops := by
 unfold adrawStatic at h
 simp only [Bool.and_eq_true, List.all_eq_true] at h
 obtain ⟨h1, h2⟩ := h
 have mem : ∀ {i : Nat} {x : Oper}, ops[i]? = some x → (x, i) ∈ ops.toList.zipIdx := by
  intro i x hx
  rw [List.mk_mem_zipIdx_iff_getElem?, Array.getElem?_toList]
  exact hx
 refine ⟨fun i x hx e he hb => ?_, fun i j x y hx hy hne hh => ?_, fun i x t hx ht j y hy hd => ?_⟩
 ·have := h1 _ (mem hx)
  simp only [Bool.and_eq_true, Array.all_eq_true'] at this
  have := this.1 e he
  simpa [hb] using this
 ·have := h1 _ (mem hx)
  simp only [Bool.and_eq_true, List.all_eq_true] at this
  have := this.2 _ (mem hy)
  simp only [Bool.or_eq_true, beq_iff_eq] at this
  rcases this with (h3 | h3) | h3
  ·exact absurd h3 hne
  ·obtain ⟨d, hd, hm⟩ := hh
   rw [hd] at h3
   simp at h3
   exact absurd hm h3
  ·exact h3
 ·have := h2 _ (mem hx)
  simp only [ht, List.all_eq_true] at this
  have := this _ (mem hy)
  simp only [hd, Bool.or_eq_true, bne_self_eq_false, Bool.false_eq_true, false_or, Bool.and_eq_true, decide_eq_true_eq, Bool.not_eq_true'] at this
  exact this
def pex (ops : Array Oper) (E : AEnv) (o : Oper) : Option Nat :=
 match aguard ops E o with
 | some true => pstore E o
 | _ => none
theorem pex_stores {E : AEnv} {o : Oper} {s : Nat} (h : pex ops E o = some s) : Op.stores o.op = true ∧ pstore E o = some s ∧ aguard ops E o = some true := by
 unfold pex at h
 split at h
 ·rename_i hg
  refine ⟨?_, h, hg⟩
  unfold pstore at h
  split at h
  ·rename_i hop; rw [hop]; rfl
  ·cases h
 ·cases h
def TStep (c : ACtx) (call : FuncId → AFun) (f : FuncId) (nt : Nat) (ops : Array Oper) (ms : List AMark) (k : Nat) (o : Oper) (E : AEnv) (H : AHeap) (E' : AEnv) (H' : AHeap) : Prop :=
 (aguard ops E o = some true ∧ aop c call f nt o E H = some (E', H') ∧ (⟨k, auses E f c o, pstore E o, atouch ops E o, H'.objs ≠ H.objs, H'.bufs ≠ H.bufs, aldOf E c o, achg H' H⟩ : AMark) ∈ ms) ∨
 (aguard ops E o = some false ∧ aput nt o.dst (.v (.tuple [])) E = some E' ∧ H' = H ∧ (⟨k, (false, false), none, atouch ops E o, False, False, none, fun _ _ _ => False⟩ : AMark) ∈ ms)
theorem TStep.mono {ms ms' : List AMark} {k : Nat} {o : Oper} {E E' : AEnv} {H H' : AHeap} (h : TStep c call f nt ops ms k o E H E' H') (hm : ∀ m ∈ ms, m ∈ ms') : TStep c call f nt ops ms' k o E H E' H' := by
 rcases h with ⟨h1, h2, h3⟩ | h
 ·exact .inl ⟨h1, h2, hm _ h3⟩
 ·exact .inr ⟨h.1, h.2.1, h.2.2.1, hm _ h.2.2.2⟩
theorem trace_spec : ∀ (l : List Oper) (i : Nat) (env : AEnv) (A : AHeap) (env' : AEnv) (A' : AHeap) (ms : List AMark), atrace c call f nt ops i l env A = some ((env', A'), ms) →
  ∃ (E : Nat → AEnv) (H : Nat → AHeap), E i = env ∧ H i = A ∧ E (i + l.length) = env' ∧ H (i + l.length) = A' ∧ ∀ (m : Nat) (o : Oper), l[m]? = some o → TStep c call f nt ops ms (i + m) o (E (i + m)) (H (i + m)) (E (i + m + 1)) (H (i + m + 1))
 | [], i, env, A, env', A', ms, h => by
   simp only [atrace] at h
   cases h
   exact ⟨fun _ => env, fun _ => A, rfl, rfl, rfl, rfl, fun m o ho => by simp at ho⟩
 | o :: l, i, env, A, env', A', ms, h => by
   simp only [atrace, Option.bind_eq_some_iff] at h
   obtain ⟨b, hb, h⟩ := h
   have fin : ∀ (env1 : AEnv) (A1 : AHeap) (ms1 : List AMark), atrace c call f nt ops (i + 1) l env1 A1 = some ((env', A'), ms1) → (∀ m ∈ ms1, m ∈ ms) → TStep c call f nt ops ms i o env A env1 A1 →
     ∃ (E : Nat → AEnv) (H : Nat → AHeap), E i = env ∧ H i = A ∧ E (i + (o :: l).length) = env' ∧ H (i + (o :: l).length) = A' ∧ ∀ (m : Nat) (o' : Oper), (o :: l)[m]? = some o' → TStep c call f nt ops ms (i + m) o' (E (i + m)) (H (i + m)) (E (i + m + 1)) (H (i + m + 1)) := by
    intro env1 A1 ms1 hr hsub hst
    obtain ⟨E, H, e1, e2, e3, e4, e5⟩ := trace_spec l (i + 1) env1 A1 env' A' ms1 hr
    refine ⟨fun k => if k = i then env else E k, fun k => if k = i then A else H k, by simp, by simp, ?_, ?_, fun m o' ho => ?_⟩
    ·have : ¬ i + (o :: l).length = i := by simp
     simp only [this, if_false]
     rw [← e3]; congr 1; simp; omega
    ·have : ¬ i + (o :: l).length = i := by simp
     simp only [this, if_false]
     rw [← e4]; congr 1; simp; omega
    ·cases m with
     | zero =>
       simp at ho
       subst ho
       simp only [Nat.add_zero, if_true]
       have : ¬ i + 1 = i := by omega
       simp only [this, if_false, e1, e2]
       exact hst
     | succ m =>
       have h1 : ¬ i + (m + 1) = i := by omega
       have h2 : ¬ i + (m + 1) + 1 = i := by omega
       simp only [h1, h2, if_false]
       have := (e5 m o' (by simpa using ho)).mono hsub
       have e : i + 1 + m = i + (m + 1) := by omega
       rw [e] at this
       exact this
   cases b with
   | true =>
     simp only [if_true, Option.bind_eq_some_iff, Option.map_eq_some_iff] at h
     obtain ⟨⟨env1, A1⟩, ho, ⟨⟨env2, A2⟩, ms1⟩, hr, h⟩ := h
     cases h
     exact fin env1 A1 ms1 hr (fun m hm => List.mem_cons_of_mem _ hm) (.inl ⟨hb, ho, List.mem_cons_self⟩)
   | false =>
     simp only [Bool.false_eq_true, if_false, Option.bind_eq_some_iff, Option.map_eq_some_iff] at h
     obtain ⟨env1, ho, ⟨⟨env2, A2⟩, ms1⟩, hr, h⟩ := h
     cases h
     exact fin env1 A ms1 hr (fun m hm => List.mem_cons_of_mem _ hm) (.inr ⟨hb, ho, rfl, List.mem_cons_self⟩)
def PlaceOk (ops : Array Oper) (env : AEnv) : Prop := ∀ p ∈ env, ∀ s off, p.2 = .place s off → ∀ o ∈ ops.toList, o.dst ≠ some s
theorem dropKey_mem {t : Nat} : ∀ {env : AEnv} {p : Nat × Slot}, p ∈ dropKey t env → p ∈ env
 | [], p, h => h
 | (s, x) :: l, p, h => by
   unfold dropKey at h
   split at h
   ·exact List.mem_cons_of_mem _ (dropKey_mem h)
   ·cases h with
    | head => exact List.mem_cons_self
    | tail _ h => exact List.mem_cons_of_mem _ (dropKey_mem h)
theorem dropKey_look {t q : Nat} {x : Slot} : ∀ {env : AEnv}, alook (dropKey t env) q = some x → q ≠ t ∧ alook env q = some x
 | [], h => by cases h
 | (s, y) :: l, h => by
   unfold dropKey at h
   split at h
   ·rename_i hs
    obtain ⟨h1, h2⟩ := dropKey_look h
    refine ⟨h1, ?_⟩
    rw [alook, if_neg (by omega)]
    exact h2
   ·rename_i hs
    rw [alook] at h
    split at h
    ·rename_i hq
     subst hq
     exact ⟨hs, by rw [alook, if_pos rfl]; exact h⟩
    ·rename_i hq
     obtain ⟨h1, h2⟩ := dropKey_look h
     exact ⟨h1, by rw [alook, if_neg hq]; exact h2⟩
theorem noPlaces_look {q : Nat} {x : Slot} : ∀ {env : AEnv}, alook (noPlaces env) q = some x → alook env q = some x
 | [], h => by cases h
 | (s, y) :: l, h => by
   unfold noPlaces at h
   split at h
   ·obtain ⟨h1, h2⟩ := dropKey_look h
    rw [alook, if_neg (by omega)]
    exact noPlaces_look h2
   ·rw [alook] at h ⊢
    split
    ·rename_i hs; rw [if_pos hs] at h; exact h
    ·rename_i hs; rw [if_neg hs] at h; exact noPlaces_look h
theorem noPlaces_ok : ∀ (env : AEnv), PlaceOk ops (noPlaces env)
 | [] => fun p hp => by cases hp
 | (t, x) :: l => by
   unfold noPlaces
   split
   ·exact fun p hp => noPlaces_ok l p (dropKey_mem hp)
   ·rename_i hx
    intro p hp s off he
    cases hp with
    | head => simp only at he; rw [he] at hx; exact absurd rfl hx
    | tail _ h => exact noPlaces_ok l p h s off he
theorem alook_mem : ∀ {env : AEnv} {t : Nat} {x : Slot}, alook env t = some x → (t, x) ∈ env
 | [], t, x, h => by cases h
 | (s, y) :: l, t, x, h => by
   simp only [alook] at h
   split at h
   ·rename_i hs; cases h; subst hs; exact List.mem_cons_self
   ·exact List.mem_cons_of_mem _ (alook_mem h)
theorem noPlaceOf_of {d : Nat} : ∀ {env : AEnv}, (∀ p ∈ env, ∀ s off, p.2 = .place s off → s ≠ d) → noPlaceOf d env = true
 | [], _ => rfl
 | (t, .v x) :: l, h => by
   simp only [noPlaceOf]
   exact noPlaceOf_of fun p hp => h p (List.mem_cons_of_mem _ hp)
 | (t, .box x) :: l, h => by
   simp only [noPlaceOf]
   exact noPlaceOf_of fun p hp => h p (List.mem_cons_of_mem _ hp)
 | (t, .place s off) :: l, h => by
   simp only [noPlaceOf, Bool.and_eq_true, bne_iff_ne]
   exact ⟨h _ List.mem_cons_self s off rfl, noPlaceOf_of fun p hp => h p (List.mem_cons_of_mem _ hp)⟩
theorem aeff_dst {o : Oper} {E : AEnv} {H H' : AHeap} {w : Option (Nat × Slot)} (h : aeff c call f o E H = some (w, H')) (hs : pstore E o = none) : ∃ s, w = o.dst.map (·, s) := by
 have gen : ∀ {op : Op}, (aslot c call E H op).map (fun r => (o.dst.map (·, r.1), r.2)) = some (w, H') → ∃ s, w = o.dst.map (·, s) := by
  intro op h
  rw [Option.map_eq_some_iff] at h
  obtain ⟨r, _, h⟩ := h
  cases h
  exact ⟨r.1, rfl⟩
 cases hop : o.op
 case store t x y =>
  simp only [pstore, hop] at hs
  simp only [aeff, hop] at h
  split at h
  ·cases h
  rename_i hd
  rw [Option.bind_eq_some_iff] at h
  obtain ⟨v, hv, h⟩ := h
  split at h
  case isFalse => cases h
  split at h
  ·rename_i s off hp
   rw [hp] at hs
   cases hs
  ·rw [Option.bind_eq_some_iff] at h
   obtain ⟨p, hp, h⟩ := h
   rw [Option.map_eq_some_iff] at h
   obtain ⟨H1, _, h⟩ := h
   cases h
   exact ⟨.place 0 0, by rw [hd]; rfl⟩
 case alloc t =>
  simp only [aeff, hop] at h
  split at h
  ·rename_i z d hz hd
   split at h
   ·cases h; exact ⟨_, by rw [hd]; rfl⟩
   ·split at h
    ·cases h; exact ⟨_, by rw [hd]; rfl⟩
    ·cases h
  ·cases h
 case box t x =>
  simp only [aeff, hop] at h
  split at h
  ·rename_i z d hz hd
   split at h
   ·cases h; exact ⟨_, by rw [hd]; rfl⟩
   ·split at h
    ·cases h; exact ⟨_, by rw [hd]; rfl⟩
    ·cases h
  ·cases h
 all_goals
  simp only [aeff, hop] at h
  exact gen h
theorem aeff_pst {o : Oper} {E : AEnv} {H H' : AHeap} {w : Option (Nat × Slot)} {s : Nat} (h : aeff c call f o E H = some (w, H')) (hs : pstore E o = some s) : o.dst = none ∧ ∃ x, w = some (s, x) := by
 cases hop : o.op
 case store t x y =>
  simp only [pstore, hop] at hs
  simp only [aeff, hop] at h
  split at h
  ·cases h
  rename_i hd
  refine ⟨hd, ?_⟩
  rw [Option.bind_eq_some_iff] at h
  obtain ⟨v, hv, h⟩ := h
  split at h
  case isFalse => cases h
  split at h
  ·rename_i s' off hp
   rw [hp] at hs
   cases hs
   rw [Option.bind_eq_some_iff] at h
   obtain ⟨p, hp, h⟩ := h
   rw [Option.map_eq_some_iff] at h
   obtain ⟨H1, _, h⟩ := h
   cases h
   exact ⟨_, rfl⟩
  ·rename_i hp
   rw [hp] at hs
   cases hs
 all_goals
  simp only [pstore, hop] at hs
  cases hs
theorem mem_touch {ops : Array Oper} {E : AEnv} {o : Oper} {t : Nat} (h : t ∈ anames ops o) : t ∈ atouch ops E o ∧ ∀ s off, alook E t = some (.place s off) → s ∈ atouch ops E o := by
 unfold atouch
 generalize anames ops o = l at h
 induction l with
 | nil => cases h
 | cons q l ih =>
   rcases List.mem_cons.1 h with rfl | h
   ·unfold atouchL
    refine ⟨?_, fun s off hp => ?_⟩
    ·split <;> exact List.mem_cons_self
    ·simp only [hp]
     exact List.mem_cons_of_mem _ List.mem_cons_self
   ·obtain ⟨h1, h2⟩ := ih h
    unfold atouchL
    split
    ·exact ⟨List.mem_cons_of_mem _ (List.mem_cons_of_mem _ h1), fun s off hp => List.mem_cons_of_mem _ (List.mem_cons_of_mem _ (h2 s off hp))⟩
    ·exact ⟨List.mem_cons_of_mem _ h1, fun s off hp => List.mem_cons_of_mem _ (h2 s off hp)⟩
theorem aplace_cases {E : AEnv} {x : Operand} {s off : Nat} (h : aplace E x = some (s, off)) : ∃ t, x = .tmp t ∧ ((∃ cs, alook E t = some (.box cs) ∧ s = t) ∨ ∃ off', alook E t = some (.place s off')) := by
 cases x with
 | tmp t =>
   refine ⟨t, rfl, ?_⟩
   simp only [aplace] at h
   split at h
   ·rename_i cs hc; cases h; exact .inl ⟨cs, hc, rfl⟩
   ·rename_i s' off' hc; cases h; exact .inr ⟨_, hc⟩
   ·cases h
 | _ => simp [aplace] at h
theorem aeff_place {o : Oper} {E : AEnv} {H H' : AHeap} {d s off : Nat} (h : aeff c call f o E H = some (some (d, .place s off), H')) :
  ∃ t, Op.addrOf o.op = some t ∧ ((∃ cs, alook E t = some (.box cs) ∧ s = t) ∨ ∃ off', alook E t = some (.place s off')) := by
 have gen : ∀ {op : Op}, (aval1 c call E H op).map (fun r => (o.dst.map (·, Slot.v r.1), r.2)) = some (some (d, .place s off), H') → False := by
  intro op h
  rw [Option.map_eq_some_iff] at h
  obtain ⟨r, _, h⟩ := h
  cases hd : o.dst with
  | none => rw [hd] at h; cases h
  | some q => rw [hd] at h; simp at h
 cases hop : o.op
 case alloc t =>
  simp only [aeff, hop] at h
  split at h
  ·split at h
   ·cases h
   ·split at h <;> cases h
  ·cases h
 case box t x =>
  simp only [aeff, hop] at h
  split at h
  ·split at h
   ·cases h
   ·split at h <;> cases h
  ·cases h
 case store t x y =>
  simp only [aeff, hop] at h
  split at h
  ·cases h
  rw [Option.bind_eq_some_iff] at h
  obtain ⟨v, hv, h⟩ := h
  split at h
  case isFalse => cases h
  split at h
  ·rw [Option.bind_eq_some_iff] at h
   obtain ⟨cs, hcs, h⟩ := h
   rw [Option.map_eq_some_iff] at h
   obtain ⟨cs', _, h⟩ := h
   cases h
  ·rw [Option.bind_eq_some_iff] at h
   obtain ⟨cs, hcs, h⟩ := h
   rw [Option.map_eq_some_iff] at h
   obtain ⟨cs', _, h⟩ := h
   cases h
 case load t x =>
  simp only [aeff, hop, aslot, Option.map_eq_some_iff] at h
  obtain ⟨r, hr, h⟩ := h
  exfalso
  split at hr
  case h_2 => cases hr
  split at hr
  ·rw [Option.bind_eq_some_iff] at hr
   obtain ⟨cs, _, hr⟩ := hr
   rw [Option.map_eq_some_iff] at hr
   obtain ⟨v, _, hr⟩ := hr
   subst hr
   cases hd : o.dst <;> rw [hd] at h <;> simp at h
  ·rw [Option.bind_eq_some_iff] at hr
   obtain ⟨cs, _, hr⟩ := hr
   rw [Option.map_eq_some_iff] at hr
   obtain ⟨v, _, hr⟩ := hr
   subst hr
   cases hd : o.dst <;> rw [hd] at h <;> simp at h
 case fieldAddr t x i =>
  simp only [aeff, hop, aslot, Option.map_eq_some_iff] at h
  obtain ⟨r, hr, h⟩ := h
  split at hr
  case h_2 => cases hr
  split at hr
  ·cases hr
  split at hr
  ·rename_i s' o' hp
   cases hr
   cases hd : o.dst <;> rw [hd] at h <;> simp at h
   obtain ⟨⟨_, rfl, _⟩, _⟩ := h
   obtain ⟨t', rfl, hh⟩ := aplace_cases hp
   exact ⟨t', rfl, hh⟩
  ·split at hr <;> cases hr <;> (cases hd : o.dst <;> rw [hd] at h <;> simp at h)
 case indexAddr t x i =>
  simp only [aeff, hop, aslot, Option.map_eq_some_iff] at h
  obtain ⟨r, hr, h⟩ := h
  split at hr
  case h_2 => cases hr
  split at hr
  ·split at hr
   case h_2 => cases hr
   rename_i s' o' hp
   split at hr
   case isFalse => cases hr
   cases hr
   cases hd : o.dst <;> rw [hd] at h <;> simp at h
   obtain ⟨⟨_, rfl, _⟩, _⟩ := h
   obtain ⟨t', rfl, hh⟩ := aplace_cases hp
   exact ⟨t', rfl, hh⟩
  ·split at hr
   case h_2 => cases hr
   rw [Option.map_eq_some_iff] at hr
   obtain ⟨p, _, hr⟩ := hr
   subst hr
   cases hd : o.dst <;> rw [hd] at h <;> simp at h
 all_goals
  simp only [aeff, hop, aslot, Option.map_map] at h
  exact (gen (op := o.op) (by rw [hop]; simpa only [Function.comp_def] using h)).elim
theorem aeff_box {o : Oper} {E : AEnv} {H H' : AHeap} {d : Nat} {cs : List AV} (h : aeff c call f o E H = some (some (d, .box cs), H')) : (Op.lays o.op = true ∧ o.dst = some d) ∨ (o.dst = none ∧ ∃ cs', alook E d = some (.box cs')) := by
 have gen : ∀ {op : Op}, (aval1 c call E H op).map (fun r => (o.dst.map (·, Slot.v r.1), r.2)) = some (some (d, .box cs), H') → False := by
  intro op h
  rw [Option.map_eq_some_iff] at h
  obtain ⟨r, _, h⟩ := h
  cases hd : o.dst with
  | none => rw [hd] at h; cases h
  | some q => rw [hd] at h; simp at h
 cases hop : o.op
 case alloc t =>
  simp only [aeff, hop] at h
  split at h
  ·rename_i z d' hz hd
   split at h
   ·cases h
   ·split at h <;> cases h
    exact .inl ⟨rfl, hd⟩
  ·cases h
 case box t x =>
  simp only [aeff, hop] at h
  split at h
  ·rename_i z d' hz hd
   split at h
   ·cases h
   ·split at h <;> cases h
    exact .inl ⟨rfl, hd⟩
  ·cases h
 case store t x y =>
  simp only [aeff, hop] at h
  split at h
  ·cases h
  rename_i hdn
  rw [Option.bind_eq_some_iff] at h
  obtain ⟨v, hv, h⟩ := h
  split at h
  case isFalse => cases h
  split at h
  ·rw [Option.bind_eq_some_iff] at h
   obtain ⟨cs1, hcs, h⟩ := h
   rw [Option.map_eq_some_iff] at h
   obtain ⟨cs', _, h⟩ := h
   cases h
   refine .inr ⟨hdn, cs1, ?_⟩
   unfold abox at hcs
   split at hcs
   ·rename_i hh; cases hcs; exact hh
   ·cases hcs
  ·rw [Option.bind_eq_some_iff] at h
   obtain ⟨cs, hcs, h⟩ := h
   rw [Option.map_eq_some_iff] at h
   obtain ⟨cs', _, h⟩ := h
   cases h
 case load t x =>
  simp only [aeff, hop, aslot, Option.map_eq_some_iff] at h
  obtain ⟨r, hr, h⟩ := h
  exfalso
  split at hr
  case h_2 => cases hr
  split at hr
  ·rw [Option.bind_eq_some_iff] at hr
   obtain ⟨cs, _, hr⟩ := hr
   rw [Option.map_eq_some_iff] at hr
   obtain ⟨v, _, hr⟩ := hr
   subst hr
   cases hd : o.dst <;> rw [hd] at h <;> simp at h
  ·rw [Option.bind_eq_some_iff] at hr
   obtain ⟨cs, _, hr⟩ := hr
   rw [Option.map_eq_some_iff] at hr
   obtain ⟨v, _, hr⟩ := hr
   subst hr
   cases hd : o.dst <;> rw [hd] at h <;> simp at h
 case fieldAddr t x i =>
  simp only [aeff, hop, aslot, Option.map_eq_some_iff] at h
  obtain ⟨r, hr, h⟩ := h
  exfalso
  split at hr
  case h_2 => cases hr
  split at hr
  ·cases hr
  split at hr
  ·cases hr
   cases hd : o.dst <;> rw [hd] at h <;> simp at h
  ·split at hr <;> cases hr <;> (cases hd : o.dst <;> rw [hd] at h <;> simp at h)
 case indexAddr t x i =>
  simp only [aeff, hop, aslot, Option.map_eq_some_iff] at h
  obtain ⟨r, hr, h⟩ := h
  exfalso
  split at hr
  case h_2 => cases hr
  split at hr
  ·split at hr
   case h_2 => cases hr
   split at hr
   case isFalse => cases hr
   cases hr
   cases hd : o.dst <;> rw [hd] at h <;> simp at h
  ·split at hr
   case h_2 => cases hr
   rw [Option.map_eq_some_iff] at hr
   obtain ⟨p, _, hr⟩ := hr
   subst hr
   cases hd : o.dst <;> rw [hd] at h <;> simp at h
 all_goals
  simp only [aeff, hop, aslot, Option.map_map] at h
  exact (gen (op := o.op) (by rw [hop]; simpa only [Function.comp_def] using h)).elim
end
section
variable {c : ACtx} {call : FuncId → AFun} {f : FuncId} {nt : Nat} {ops : Array Oper} {ms : List AMark} {K : Nat} {E : Nat → AEnv} {H : Nat → AHeap}
def Tr (c : ACtx) (call : FuncId → AFun) (f : FuncId) (nt : Nat) (ops : Array Oper) (ms : List AMark) (K : Nat) (E : Nat → AEnv) (H : Nat → AHeap) : Prop :=
 K ≤ ops.size ∧ ∀ (k : Nat) (o : Oper), k < K → ops[k]? = some o → TStep c call f nt ops ms k o (E k) (H k) (E (k + 1)) (H (k + 1))
def Wr (ops : Array Oper) (K : Nat) (E : Nat → AEnv) (k t : Nat) : Prop := k < K ∧ ∃ o, ops[k]? = some o ∧ (o.dst = some t ∨ pex ops (E k) o = some t)
def ChO (ops : Array Oper) (K : Nat) (E : Nat → AEnv) (H : Nat → AHeap) (k : Nat) : Prop := k < K ∧ ∃ o, ops[k]? = some o ∧ aguard ops (E k) o = some true ∧ (H (k + 1)).objs ≠ (H k).objs
def ChB (ops : Array Oper) (K : Nat) (E : Nat → AEnv) (H : Nat → AHeap) (k : Nat) : Prop := k < K ∧ ∃ o, ops[k]? = some o ∧ aguard ops (E k) o = some true ∧ (H (k + 1)).bufs ≠ (H k).bufs
theorem Tr.at (h : Tr c call f nt ops ms K E H) {k : Nat} (hk : k < K) : ∃ o, ops[k]? = some o := ⟨_, Array.getElem?_eq_getElem (Nat.lt_of_lt_of_le hk h.1)⟩
theorem TStep.laid {k : Nat} {o : Oper} {E E' : AEnv} {H H' : AHeap} (h : TStep c call f nt ops ms k o E H E' H') : ∃ w, alay nt w E = some E' ∧ ((pex ops E o = none → ∃ s, w = o.dst.map (·, s)) ∧ ∀ s, pex ops E o = some s → o.dst = none ∧ ∃ x, w = some (s, x)) ∧
  (∀ d s off, w = some (d, .place s off) → ∃ t, Op.addrOf o.op = some t ∧ ((∃ cs, alook E t = some (.box cs) ∧ s = t) ∨ ∃ off', alook E t = some (.place s off'))) ∧
  (∀ d cs, w = some (d, .box cs) → (Op.lays o.op = true ∧ o.dst = some d) ∨ (o.dst = none ∧ ∃ cs', alook E d = some (.box cs'))) := by
 rcases h with ⟨h1, h2, _⟩ | ⟨h1, h2, h3, _⟩
 ·unfold aop at h2
  rw [Option.bind_eq_some_iff] at h2
  obtain ⟨⟨w, A1⟩, he, h2⟩ := h2
  rw [Option.map_eq_some_iff] at h2
  obtain ⟨e1, hl, h2⟩ := h2
  cases h2
  exact ⟨w, hl, ⟨fun hs => aeff_dst he (by simpa [pex, h1] using hs), fun s hs => aeff_pst he (by simpa [pex, h1] using hs)⟩, fun d s off hw => by subst hw; exact aeff_place he, fun d cs hw => by subst hw; exact aeff_box he⟩
 ·refine ⟨o.dst.map (·, .v (.tuple [])), h2, ⟨fun _ => ⟨_, rfl⟩, fun s hs => by rw [pex, h1] at hs; cases hs⟩, fun d s off hw => ?_, fun d cs hw => ?_⟩
  ·cases hd : o.dst <;> rw [hd] at hw <;> cases hw
  ·cases hd : o.dst <;> rw [hd] at hw <;> cases hw
theorem alay_look {w : Option (Nat × Slot)} {E E' : AEnv} (h : alay nt w E = some E') (t : Nat) (hne : ∀ x, w ≠ some (t, x)) : alook E' t = alook E t := by
 cases w with
 | none => cases h; rfl
 | some p =>
   obtain ⟨d, x⟩ := p
   simp only [alay] at h
   split at h
   ·cases h
    rw [alook_cons_eq, if_neg]
    intro hd
    subst hd
    exact hne x rfl
   ·cases h
theorem alay_look_eq {E E' : AEnv} {t : Nat} {x : Slot} (h : alay nt (some (t, x)) E = some E') : alook E' t = some x := by
 simp only [alay] at h
 split at h
 ·cases h; simp [alook_cons_eq]
 ·cases h
theorem alay_mem {w : Option (Nat × Slot)} {E E' : AEnv} (h : alay nt w E = some E') : ∀ p ∈ E', p ∈ E ∨ w = some p := by
 cases w with
 | none => cases h; exact fun p hp => .inl hp
 | some q =>
   obtain ⟨d, x⟩ := q
   simp only [alay] at h
   split at h
   ·cases h
    intro p hp
    cases hp with
    | head => exact .inr rfl
    | tail _ hp => exact .inl hp
   ·cases h
theorem alay_in {w : Nat × Slot} {E E' : AEnv} (h : alay nt (some w) E = some E') : w ∈ E' := by
 obtain ⟨d, x⟩ := w
 simp only [alay] at h
 split at h
 ·cases h; exact List.mem_cons_self
 ·cases h
theorem alay_some {w : Option (Nat × Slot)} {E E' : AEnv} (h : alay nt w E = some E') (F : AEnv) : ∃ F', alay nt w F = some F' := by
 cases w with
 | none => exact ⟨F, rfl⟩
 | some p =>
   obtain ⟨d, x⟩ := p
   simp only [alay] at h ⊢
   split at h
   ·rename_i hd; exact ⟨_, by rw [if_pos hd]⟩
   ·cases h
theorem Tr.slot1 (h : Tr c call f nt ops ms K E H) {k t : Nat} (hk : k < K) (hw : ¬ Wr ops K E k t) : alook (E (k + 1)) t = alook (E k) t := by
 obtain ⟨o, ho⟩ := h.at hk
 obtain ⟨w, hl, hd, _⟩ := (h.2 k _ hk ho).laid
 refine alay_look hl t fun x hx => ?_
 cases hs : pex ops (E k) o with
 | none =>
   obtain ⟨s, rfl⟩ := hd.1 hs
   rw [Option.map_eq_some_iff] at hx
   obtain ⟨d, hd', hx⟩ := hx
   cases hx
   exact hw ⟨hk, _, ho, .inl hd'⟩
 | some s =>
   obtain ⟨_, y, rfl⟩ := hd.2 s hs
   cases hx
   exact hw ⟨hk, _, ho, .inr hs⟩
theorem Tr.slots (h : Tr c call f nt ops ms K E H) {t p : Nat} : ∀ {q : Nat}, p ≤ q → q ≤ K → (∀ j, Wr ops K E j t → ¬ (p ≤ j ∧ j < q)) → alook (E q) t = alook (E p) t
 | 0, hp, _, _ => by have : p = 0 := by omega
                     rw [this]
 | q + 1, hp, hq, hw => by
   by_cases he : p = q + 1
   ·rw [he]
   ·rw [h.slot1 (by omega) (fun hh => hw q hh ⟨by omega, by omega⟩)]
    exact h.slots (by omega) (by omega) (fun j hj hh => hw j hj ⟨hh.1, by omega⟩)
theorem Tr.objs1 (h : Tr c call f nt ops ms K E H) {k : Nat} (hk : k < K) (hw : ¬ ChO ops K E H k) : (H (k + 1)).objs = (H k).objs := by
 obtain ⟨o, ho⟩ := h.at hk
 rcases h.2 k _ hk ho with ⟨h1, _, _⟩ | ⟨_, _, h3, _⟩
 ·exact Classical.byContradiction fun hne => hw ⟨hk, _, ho, h1, hne⟩
 ·rw [h3]
theorem Tr.objs (h : Tr c call f nt ops ms K E H) {p : Nat} : ∀ {q : Nat}, p ≤ q → q ≤ K → (∀ j, ChO ops K E H j → ¬ (p ≤ j ∧ j < q)) → (H q).objs = (H p).objs
 | 0, hp, _, _ => by have : p = 0 := by omega
                     rw [this]
 | q + 1, hp, hq, hw => by
   by_cases he : p = q + 1
   ·rw [he]
   ·rw [h.objs1 (by omega) (fun hh => hw q hh ⟨by omega, by omega⟩)]
    exact h.objs (by omega) (by omega) (fun j hj hh => hw j hj ⟨hh.1, by omega⟩)
theorem Tr.bufs1 (h : Tr c call f nt ops ms K E H) {k : Nat} (hk : k < K) (hw : ¬ ChB ops K E H k) : (H (k + 1)).bufs = (H k).bufs := by
 obtain ⟨o, ho⟩ := h.at hk
 rcases h.2 k _ hk ho with ⟨h1, _, _⟩ | ⟨_, _, h3, _⟩
 ·exact Classical.byContradiction fun hne => hw ⟨hk, _, ho, h1, hne⟩
 ·rw [h3]
theorem Tr.bufs (h : Tr c call f nt ops ms K E H) {p : Nat} : ∀ {q : Nat}, p ≤ q → q ≤ K → (∀ j, ChB ops K E H j → ¬ (p ≤ j ∧ j < q)) → (H q).bufs = (H p).bufs
 | 0, hp, _, _ => by have : p = 0 := by omega
                     rw [this]
 | q + 1, hp, hq, hw => by
   by_cases he : p = q + 1
   ·rw [he]
   ·rw [h.bufs1 (by omega) (fun hh => hw q hh ⟨by omega, by omega⟩)]
    exact h.bufs (by omega) (by omega) (fun j hj hh => hw j hj ⟨hh.1, by omega⟩)
theorem Tr.boxes (h : Tr c call f nt ops ms K E H) : ∀ (i : Nat), i ≤ K → ∀ s cs, alook (E i) s = some (.box cs) → (∃ j o, j < i ∧ ops[j]? = some o ∧ Op.lays o.op = true ∧ o.dst = some s) ∨ ∀ j o, j < i → ops[j]? = some o → o.dst ≠ some s
 | 0, _, s, cs, _ => .inr fun j o hj => by omega
 | i + 1, hi, s, cs, hs => by
   obtain ⟨oi, ho⟩ := h.at (k := i) (by omega)
   obtain ⟨w, hl, hd, _, hbx⟩ := (h.2 i _ (by omega) ho).laid
   have ext : (∃ cs', alook (E i) s = some (.box cs')) → oi.dst ≠ some s → (∃ j o, j < i + 1 ∧ ops[j]? = some o ∧ Op.lays o.op = true ∧ o.dst = some s) ∨ ∀ j o, j < i + 1 → ops[j]? = some o → o.dst ≠ some s := by
    rintro ⟨cs', hc⟩ hne
    rcases h.boxes i (by omega) s cs' hc with ⟨j, o, h1, h2⟩ | h1
    ·exact .inl ⟨j, o, by omega, h2⟩
    ·refine .inr fun j o hj hjo => ?_
     by_cases he : j = i
     ·subst he; rw [ho] at hjo; cases hjo; exact hne
     ·exact h1 j o (by omega) hjo
   by_cases hw : ∃ x, w = some (s, x)
   ·obtain ⟨x, rfl⟩ := hw
    have hx := alay_look_eq hl
    rw [hs] at hx
    cases hx
    rcases hbx s cs rfl with ⟨h1, h2⟩ | ⟨h1, h2⟩
    ·exact .inl ⟨i, _, by omega, ho, h1, h2⟩
    ·exact ext h2 (by rw [h1]; intro e; cases e)
   ·have hlk := alay_look hl s (fun x hx => hw ⟨x, hx⟩)
    rw [hs] at hlk
    by_cases hds : oi.dst = some s
    ·exfalso
     cases hst' : pex ops (E i) oi with
     | some s' =>
       have := (hd.2 s' hst').1
       rw [hds] at this
       cases this
     | none =>
       obtain ⟨s2, rfl⟩ := hd.1 hst'
       rw [hds] at hw
       exact hw ⟨s2, rfl⟩
    ·exact ext ⟨cs, hlk.symm⟩ hds
theorem Tr.places (h : Tr c call f nt ops ms K E H) (hs : Stat ops) (h0 : PlaceOk ops (E 0)) : ∀ (i : Nat), i ≤ K → PlaceOk ops (E i)
 | 0, _ => h0
 | i + 1, hi => by
   obtain ⟨oi, ho⟩ := h.at (k := i) (by omega)
   have ih := h.places hs h0 i (by omega)
   obtain ⟨w, hl, hd, hpl, _⟩ := (h.2 i _ (by omega) ho).laid
   intro p hp s off hps o hoo
   rcases alay_mem hl p hp with hm | hm
   ·exact ih p hm s off hps o hoo
   ·subst hm
    obtain ⟨d, x⟩ := p
    simp only at hps
    subst hps
    obtain ⟨t, ha, hh⟩ := hpl d s off rfl
    rcases hh with ⟨cs, hcs, rfl⟩ | ⟨off', hoff⟩
    ·intro hds
     obtain ⟨j, hj⟩ := List.getElem?_of_mem hoo
     rw [Array.getElem?_toList] at hj
     obtain ⟨h1, h2⟩ := hs.addr i _ s ho ha j o hj hds
     rcases h.boxes i (by omega) s cs hcs with ⟨j', o', k1, k2, k3, k4⟩ | k1
     ·obtain ⟨_, k5⟩ := hs.addr i _ s ho ha j' o' k2 k4
      rw [k3] at k5
      cases k5
     ·exact k1 j o h1 hj hds
    ·exact ih _ (alook_mem hoff) s off' rfl o hoo
structure Inv (ops : Array Oper) (K : Nat) (E : Nat → AEnv) (H : Nat → AHeap) (L : Array Bool) (F : AEnv) (G : AHeap) : Prop where
 sz : L.size = ops.size
 cl : Closed ops L
 sl : ∀ t i, i ≤ K → (∀ j, Wr ops K E j t → (j < i ↔ L[j]? = some true)) → alook F t = alook (E i) t
 ob : ∀ i, i ≤ K → (∀ j, ChO ops K E H j → (j < i ↔ L[j]? = some true)) → G.objs = (H i).objs
 bf : ∀ i, i ≤ K → (∀ j, ChB ops K E H j → (j < i ↔ L[j]? = some true)) → G.bufs = (H i).bufs
 pl : PlaceOk ops F
theorem set_get (L : Array Bool) (k j : Nat) (hk : k < L.size) : (L.setIfInBounds k true)[j]? = some true ↔ (j = k ∨ L[j]? = some true) := by
 rw [Array.getElem?_setIfInBounds]
 split
 ·rename_i h; subst h; simp [hk]
 ·rename_i h
  constructor
  ·exact .inr
  ·rintro (h1 | h1)
   ·exact absurd h1.symm h
   ·exact h1
theorem Tr.usesO (h : Tr c call f nt ops ms K E H) {j : Nat} (hj : ChO ops K E H j) : ∃ o, ops[j]? = some o ∧ (auses (E j) f c o).1 = true ∧ aldOf (E j) c o = none ∧
  ∃ m ∈ ms, m.i = j ∧ m.co ∧ m.u = auses (E j) f c o ∧ m.ld = none ∧ ∀ n agg p, aload (H (j + 1)) n agg p ≠ aload (H j) n agg p → m.cp n agg p := by
 obtain ⟨hjK, o, ho, hg, hch⟩ := hj
 rcases h.2 j o hjK ho with ⟨g1, g2, g3⟩ | ⟨g1, _, _⟩
 ·unfold aop at g2
  rw [Option.bind_eq_some_iff] at g2
  obtain ⟨⟨w, A1⟩, ge, g2⟩ := g2
  rw [Option.map_eq_some_iff] at g2
  obtain ⟨e1, gl, g2⟩ := g2
  have hH : A1 = H (j + 1) := by cases g2; rfl
  rw [hH] at ge
  have hl : aldOf (E j) c o = none := by
   cases hld : aldOf (E j) c o with
   | none => rfl
   | some r =>
     unfold aldOf at hld
     split at hld
     ·rename_i t x hop
      unfold aeff at ge
      simp only [hop, aslot] at ge
      rw [Option.map_eq_some_iff] at ge
      obtain ⟨q, hq, ge⟩ := ge
      have hH2 : q.2 = H (j + 1) := (Prod.mk.inj ge).2
      split at hq
      ·split at hq
       ·rw [Option.bind_eq_some_iff] at hq
        obtain ⟨cs, _, hq⟩ := hq
        rw [Option.map_eq_some_iff] at hq
        obtain ⟨v, _, hq⟩ := hq
        have : q.2 = H j := by rw [← hq]
        exact absurd (by rw [← hH2, this]) hch
       ·rw [Option.bind_eq_some_iff] at hq
        obtain ⟨cs, _, hq⟩ := hq
        rw [Option.map_eq_some_iff] at hq
        obtain ⟨v, _, hq⟩ := hq
        have : q.2 = H j := by rw [← hq]
        exact absurd (by rw [← hH2, this]) hch
      ·cases hq
     ·cases hld
  obtain ⟨G', hG, fr⟩ := aeff_frame (f := f) (G := H j) (fun _ => rfl) (fun _ => rfl) ge
  have hu : (auses (E j) f c o).1 = true := by
   cases hu : (auses (E j) f c o).1 with
   | true => rfl
   | false => exact absurd (fr.ob' hu).2 hch
  exact ⟨o, ho, hu, hl, _, g3, rfl, hch, rfl, hl, fun n agg p hne => hne⟩
 ·rw [hg] at g1; cases g1
theorem Inv.preL (h : Tr c call f nt ops ms K E H) (hdr : adrawn ops ms) {L : Array Bool} {F : AEnv} {G : AHeap} (v : Inv ops K E H L F G) : ∃ i, i ≤ K ∧ ∀ j, ChO ops K E H j → (j < i ↔ L[j]? = some true) := by
 have hsz : ∀ j, ChO ops K E H j → j < K := fun j h => h.1
 have key : ∀ n, n ≤ K → (∀ j, ChO ops K E H j → L[j]? = some true → j < n) → ∃ i, i ≤ K ∧ ∀ j, ChO ops K E H j → (j < i ↔ L[j]? = some true) := by
  intro n
  induction n with
  | zero => exact fun _ hn => ⟨0, by omega, fun j hj => ⟨fun h => by omega, fun h => hn j hj h⟩⟩
  | succ n ih =>
    intro hle hn
    by_cases hc : ChO ops K E H n ∧ L[n]? = some true
    ·refine ⟨n + 1, hle, fun j hj => ⟨fun hlt => ?_, fun hl => hn j hj hl⟩⟩
     by_cases he : j = n
     ·rw [he]; exact hc.2
     ·obtain ⟨o1, ho1, u1, l1, m1, mm1, i1, c1, uu1, ld1, _⟩ := h.usesO hj
      obtain ⟨o2, ho2, u2, l2, m2, mm2, i2, c2, uu2, ld2, _⟩ := h.usesO hc.1
      have hord := hdr.1 m1 mm1 m2 mm2 (by rw [i1, i2]; exact he) (.inl ⟨c1, by rw [uu2]; exact u2, fun n agg p hp => by rw [ld2] at hp; cases hp⟩)
      rw [i1, i2] at hord
      unfold aord at hord
      rw [Nat.max_eq_right (by omega), Nat.min_eq_left (by omega)] at hord
      exact before_listed v.cl n j o2 ho2 (v.cl n o2 ho2 hc.2) hord
    ·refine ih (by omega) fun j hj hl => ?_
     have := hn j hj hl
     have : j ≠ n := fun e => hc (e ▸ ⟨hj, hl⟩)
     omega
 exact key K (Nat.le_refl _) fun j hj _ => hsz j hj
theorem Inv.loads (h : Tr c call f nt ops ms K E H) (hdr : adrawn ops ms) {L : Array Bool} {F : AEnv} {G : AHeap} (v : Inv ops K E H L F G) {k : Nat} {o : Oper} (hkK : k < K) (ho : ops[k]? = some o) (hk : L[k]? ≠ some true)
  (he : ∀ e ∈ o.after, Region.binds .any e = true → L[e.on]? = some true) {m' : AMark} (hm' : m' ∈ ms) (hi' : m'.i = k) {n : Nat} {agg : Bool} {id off : Nat} (hl : m'.ld = some (n, agg, .ptr id off)) (hu : m'.u.1 = true) (hnc : ¬ ChO ops K E H k) :
  aload G n agg (.ptr id off) = aload (H k) n agg (.ptr id off) := by
 obtain ⟨i, hi, hpre⟩ := v.preL h hdr
 have hG := v.ob i hi hpre
 have e1 : aload G n agg (.ptr id off) = aload (H i) n agg (.ptr id off) := by simp only [aload, hG]
 rw [e1]
 have same : ∀ j, j < K → (ChO ops K E H j → ¬ (j < k ↔ L[j]? = some true)) → aload (H (j + 1)) n agg (.ptr id off) = aload (H j) n agg (.ptr id off) := by
  intro j hj hn
  by_cases hc : ChO ops K E H j
  ·apply Classical.byContradiction
   intro hne
   obtain ⟨oj, hoj, _, _, m, hm, hmi, hco, _, _, hcp⟩ := h.usesO hc
   have hjk : j ≠ k := fun e => hnc (e ▸ hc)
   have := hdr.1 m hm m' hm' (by rw [hmi, hi']; exact hjk) (.inl ⟨hco, hu, fun n' agg' p' hp => by rw [hl] at hp; cases hp; exact hcp _ _ _ hne⟩)
   rw [hmi, hi'] at this
   exact hn hc (ord_iff v.cl ho hk he hjk this)
  ·have := h.objs1 hj hc
   simp only [aload, this]
 have chain : ∀ (d a : Nat), a + d ≤ K → (∀ j, a ≤ j → j < a + d → ChO ops K E H j → ¬ (j < k ↔ L[j]? = some true)) → aload (H (a + d)) n agg (.ptr id off) = aload (H a) n agg (.ptr id off) := by
  intro d
  induction d with
  | zero => intro a _ _; rfl
  | succ d ih =>
    intro a hle hq
    have h1 := same (a + d) (by omega) (hq (a + d) (by omega) (by omega))
    have h2 := ih a (by omega) fun j h1 h2 => hq j h1 (by omega)
    rw [show a + (d + 1) = a + d + 1 by omega, h1, h2]
 rcases Nat.le_total i k with hik | hik
 ·have := chain (k - i) i (by omega) fun j h1 h2 hc hh => by
   have h3 := hh.1 (by omega)
   have := (hpre j hc).2 h3
   omega
  rw [show i + (k - i) = k by omega] at this
  exact this.symm
 ·have := chain (i - k) k (by omega) fun j h1 h2 hc hh => by
   have h3 := (hpre j hc).1 (by omega)
   have := hh.2 h3
   omega
  rw [show k + (i - k) = i by omega] at this
  exact this
set_option maxHeartbeats 1000000 in
theorem Inv.step (h : Tr c call f nt ops ms K E H) (hs : Stat ops) (hdr : adrawn ops ms) (h0 : PlaceOk ops (E 0)) {L : Array Bool} {F : AEnv} {G : AHeap} (v : Inv ops K E H L F G) {k : Nat} {o : Oper} (hkK : k < K) (ho : ops[k]? = some o) (hk : L[k]? ≠ some true)
  (he : ∀ e ∈ o.after, Region.binds .any e = true → L[e.on]? = some true) : ∃ F' G', astep c call f nt ops o F G = some (F', G') ∧ Inv ops K E H (L.setIfInBounds k true) F' G' := by
 have hkn : k < ops.size := (Array.getElem?_eq_some_iff.1 ho).1
 have hkL : k < L.size := by rw [v.sz]; exact hkn
 have hst := h.2 k o hkK ho
 have self : ∀ {p : Prop}, (p → False) → (p ↔ L[k]? = some true) := fun hp => ⟨fun x => (hp x).elim, fun x => absurd x hk⟩
 have hlt : ¬ k < k := by omega
 have pord : ∀ (j : Nat) (oj : Oper) (s : Nat), j < K → ops[j]? = some oj → pex ops (E j) oj = some s → ∀ q oq, q < K → ops[q]? = some oq → q ≠ j → s ∈ atouch ops (E q) oq → aord ops j q = true := by
  intro j oj s hjK hoj hp q oq hqK hoq hne ht
  obtain ⟨_, hps, hgj⟩ := pex_stores hp
  rcases h.2 j oj hjK hoj with ⟨_, _, k3⟩ | ⟨k1, _, _⟩
  ·rcases h.2 q oq hqK hoq with ⟨_, _, l3⟩ | ⟨_, _, _, l3⟩
   ·exact hdr.2 _ k3 s hps _ l3 hne ht
   ·exact hdr.2 _ k3 s hps _ l3 hne ht
  ·rw [hgj] at k1; cases k1
 have touched : ∀ t, (t ∈ anames ops o ∨ pex ops (E k) o = some t) → t ∈ atouch ops (E k) o := by
  rintro t (ht | ht)
  ·exact (mem_touch ht).1
  ·obtain ⟨hst, hps, _⟩ := pex_stores ht
   cases hop : o.op <;> rw [hop] at hst <;> simp only [Op.stores] at hst <;> try (cases hst; done)
   rename_i ty x y
   simp only [pstore, hop, Option.map_eq_some_iff] at hps
   obtain ⟨⟨s, off⟩, hpl, rfl⟩ := hps
   obtain ⟨q, rfl, hq⟩ := aplace_cases hpl
   have hqn : q ∈ anames ops o := by
    unfold anames Oper.looksAt
    simp [hop, Op.operands]
   rcases hq with ⟨cs, _, rfl⟩ | ⟨off', hq⟩
   ·exact (mem_touch hqn).1
   ·exact (mem_touch hqn).2 _ _ hq
 have ordw : ∀ j t, Wr ops K E j t → j ≠ k → (t ∈ anames ops o ∨ pex ops (E k) o = some t) → (j < k ↔ L[j]? = some true) := by
  rintro j t ⟨hjK, oj, hoj, hw⟩ hne hh
  refine ord_iff v.cl ho hk he hne ?_
  rcases hw with hw | hw
  ·rcases hh with hh | hh
   ·exact hs.ord j k oj o hoj ho hne ⟨t, hw, hh⟩
   ·rw [aord_comm]
    refine pord k o t hkK ho hh j oj hjK hoj hne (mem_touch ?_).1
    unfold anames
    rw [hw]
    simp
  ·exact pord j oj t hjK hoj hw k o hkK ho (fun e => hne e.symm) (touched t hh)
 have slk : ∀ t, (t ∈ anames ops o ∨ pex ops (E k) o = some t) → alook F t = alook (E k) t := by
  intro t ht
  refine v.sl t k (by omega) fun j hj => ?_
  by_cases hjk : j = k
  ·subst hjk; exact self hlt
  ·exact ordw j t hj hjk ht
 have hlook : ∀ t, t ∈ o.looksAt ops → t ∈ anames ops o := fun t ht => by unfold anames; exact List.mem_append.2 (.inl ht)
 have hpk := h.places hs h0 k (by omega)
 have hag : Agree ops o (E k) F := by
  refine ⟨fun t ht => (slk t (.inl (hlook t ht))).symm, fun t ht s off hp => ?_, fun d hd _ => ?_⟩
  ·refine (v.sl s k (by omega) fun j hj => ?_).symm
   by_cases hjk : j = k
   ·subst hjk; exact self hlt
   ·obtain ⟨hjK, oj, hoj, hw⟩ := hj
    rcases hw with hw | hw
    ·exact absurd hw (hpk _ (alook_mem hp) s off rfl oj (by
      have := Array.mem_of_getElem? hoj
      simpa using this))
    ·exact ord_iff v.cl ho hk he hjk (pord j oj s hjK hoj hw k o hkK ho (fun e => hjk e.symm) ((mem_touch (hlook t ht)).2 s off hp))
  ·refine noPlaceOf_of fun p hp s off hps => ?_
   have := v.pl p hp s off hps o (by have := Array.mem_of_getElem? ho; simpa using this)
   intro e
   subst e
   exact this hd
 -- the step
 have key : ∃ w F' G', alay nt w (E k) = some (E (k + 1)) ∧ alay nt w F = some F' ∧ astep c call f nt ops o F G = some (F', G') ∧ ((pex ops (E k) o = none → ∃ s, w = o.dst.map (·, s)) ∧ ∀ s, pex ops (E k) o = some s → o.dst = none ∧ ∃ x, w = some (s, x)) ∧
   (ChO ops K E H k → G'.objs = (H (k + 1)).objs) ∧ (¬ ChO ops K E H k → G'.objs = G.objs) ∧ (ChB ops K E H k → G'.bufs = (H (k + 1)).bufs) ∧ (¬ ChB ops K E H k → G'.bufs = G.bufs) ∧
   (ChO ops K E H k → ∀ j, ChO ops K E H j → j ≠ k → (j < k ↔ L[j]? = some true)) ∧ (ChB ops K E H k → ∀ j, ChB ops K E H j → j ≠ k → (j < k ↔ L[j]? = some true)) := by
  rcases hst with ⟨g1, g2, g3⟩ | ⟨g1, g2, g3, _⟩
  ·unfold aop at g2
   rw [Option.bind_eq_some_iff] at g2
   obtain ⟨⟨w, A1⟩, ge, g2⟩ := g2
   rw [Option.map_eq_some_iff] at g2
   obtain ⟨e1, gl, g2⟩ := g2
   have hE : e1 = E (k + 1) := by cases g2; rfl
   have hH : A1 = H (k + 1) := by cases g2; rfl
   rw [hE] at gl
   rw [hH] at ge
   simp only at gl
   cases hld : aldOf (E k) c o with
   | some r0 =>
     have hr0 := hld
     unfold aldOf at hr0
     split at hr0
     case h_2 => cases hr0
     rename_i t x hop
     split at hr0
     case h_2 => cases hr0
     rename_i n agg id off hkt hpl hev
     cases hr0
     have hpl' : aplace F x = none := by rw [← aplace_same (fun t' ht' => hag.operand (by simp [hop, Op.operands]) t' ht')]; exact hpl
     have hev' : aeval F x = some (.ptr id off) := by rw [← aeval_same (fun t' ht' => hag.operand (by simp [hop, Op.operands]) t' ht')]; exact hev
     have ge0 := ge
     unfold aeff at ge0
     simp only [hop, aslot, hkt, hpl, hev, Option.bind_some, Option.map_map, Option.map_eq_some_iff, Function.comp] at ge0
     obtain ⟨v0, hv0, ge1⟩ := ge0
     have hw0 : w = o.dst.map (·, Slot.v v0) := (Prod.mk.inj ge1).1.symm
     have hHk : H (k + 1) = H k := (Prod.mk.inj ge1).2.symm
     have nO : ¬ ChO ops K E H k := by rintro ⟨_, o2, ho2, _, hch⟩; exact hch (by rw [hHk])
     have nB : ¬ ChB ops K E H k := by rintro ⟨_, o2, ho2, _, hch⟩; exact hch (by rw [hHk])
     have hua : (auses (E k) f c o).1 = true := by unfold auses; simp only [hop, hpl, hev]
     have hlo := v.loads h hdr hkK ho hk he g3 rfl hld hua nO
     obtain ⟨F', hF⟩ := alay_some gl F
     refine ⟨w, F', G, gl, hF, ?_, ⟨fun hns => aeff_dst ge (by simpa [pex, g1] using hns), fun s hs => aeff_pst ge (by simpa [pex, g1] using hs)⟩, fun hc => absurd hc nO, fun _ => rfl, fun hc => absurd hc nB, fun _ => rfl, fun hc => absurd hc nO, fun hc => absurd hc nB⟩
     unfold astep aop
     rw [← aguard_same hag, g1]
     have hfe : aeff c call f o F G = some (w, G) := by
      unfold aeff
      simp only [hop, aslot, hkt, hpl', hev', Option.bind_some, hlo, hv0, Option.map_some, hw0]
     simp [hfe, hF]
   | none =>
   have chg : ∀ {j : Nat}, ChO ops K E H j → ∃ m ∈ ms, m.i = j ∧ m.co ∧ (∀ oj, ops[j]? = some oj → m.u = auses (E j) f c oj) := by
    rintro j ⟨hjK, oj, hoj, hgj, hch⟩
    rcases h.2 j oj hjK hoj with ⟨_, _, k3⟩ | ⟨k1, _, _⟩
    ·refine ⟨_, k3, rfl, hch, fun oj' h' => ?_⟩
     rw [hoj] at h'; cases h'; rfl
    ·rw [hgj] at k1; cases k1
   have chgb : ∀ {j : Nat}, ChB ops K E H j → ∃ m ∈ ms, m.i = j ∧ m.cb ∧ (∀ oj, ops[j]? = some oj → m.u = auses (E j) f c oj) := by
    rintro j ⟨hjK, oj, hoj, hgj, hch⟩
    rcases h.2 j oj hjK hoj with ⟨_, _, k3⟩ | ⟨k1, _, _⟩
    ·refine ⟨_, k3, rfl, hch, fun oj' h' => ?_⟩
     rw [hoj] at h'; cases h'; rfl
    ·rw [hgj] at k1; cases k1
   have oordO : (auses (E k) f c o).1 = true → ∀ j, ChO ops K E H j → j ≠ k → (j < k ↔ L[j]? = some true) := by
    intro hu j hj hne
    obtain ⟨m, hm, hmi, hmc, _⟩ := chg hj
    refine ord_iff v.cl ho hk he hne ?_
    have := hdr.1 m hm _ g3 (by rw [hmi]; exact hne) (.inl ⟨hmc, hu, fun n agg p hp => by rw [hld] at hp; cases hp⟩)
    rw [hmi] at this
    exact this
   have oordB : (auses (E k) f c o).2 = true → ∀ j, ChB ops K E H j → j ≠ k → (j < k ↔ L[j]? = some true) := by
    intro hu j hj hne
    obtain ⟨m, hm, hmi, hmc, _⟩ := chgb hj
    refine ord_iff v.cl ho hk he hne ?_
    have := hdr.1 m hm _ g3 (by rw [hmi]; exact hne) (.inr ⟨hmc, hu⟩)
    rw [hmi] at this
    exact this
   have huse := auses_same (c := c) (f := f) hag
   have ho1 : (auses F f c o).1 = true → (H k).objs = G.objs := by
    intro hu
    rw [← huse] at hu
    refine (v.ob k (by omega) fun j hj => ?_).symm
    by_cases hjk : j = k
    ·subst hjk; exact self hlt
    ·exact oordO hu j hj hjk
   have hb1 : (auses F f c o).2 = true → (H k).bufs = G.bufs := by
    intro hu
    rw [← huse] at hu
    refine (v.bf k (by omega) fun j hj => ?_).symm
    by_cases hjk : j = k
    ·subst hjk; exact self hlt
    ·exact oordB hu j hj hjk
   obtain ⟨G', hG, fr⟩ := aeff_frame (f := f) ho1 hb1 (aeff_same hag ge)
   obtain ⟨F', hF⟩ := alay_some gl F
   have usesO : ChO ops K E H k → (auses F f c o).1 = true := by
    rintro ⟨_, o2, ho2, _, hch⟩
    cases hu : (auses F f c o).1 with
    | true => rfl
    | false => exact absurd (fr.ob' hu).2 hch
   have usesB : ChB ops K E H k → (auses F f c o).2 = true := by
    rintro ⟨_, o2, ho2, _, hch⟩
    cases hu : (auses F f c o).2 with
    | true => rfl
    | false => exact absurd (fr.bf' hu).2 hch
   refine ⟨w, F', G', gl, hF, ?_, ⟨fun hns => aeff_dst ge (by simpa [pex, g1] using hns), fun s hs => aeff_pst ge (by simpa [pex, g1] using hs)⟩, fun hc => fr.ob (usesO hc), fun hc => ?_, fun hc => fr.bf (usesB hc), fun hc => ?_, fun hc => oordO (by rw [huse]; exact usesO hc), fun hc => oordB (by rw [huse]; exact usesB hc)⟩
   ·unfold astep aop
    rw [← aguard_same hag, g1]
    simp [hG, hF]
   ·have hnc : (H (k + 1)).objs = (H k).objs := h.objs1 hkK hc
    cases hu : (auses F f c o).1 with
    | true => rw [fr.ob hu, hnc, ho1 hu]
    | false => exact (fr.ob' hu).1
   ·have hnc : (H (k + 1)).bufs = (H k).bufs := h.bufs1 hkK hc
    cases hu : (auses F f c o).2 with
    | true => rw [fr.bf hu, hnc, hb1 hu]
    | false => exact (fr.bf' hu).1
  ·obtain ⟨F', hF⟩ := alay_some g2 F
   have nO : ¬ ChO ops K E H k := by rintro ⟨_, o2, ho2, _, hch⟩; exact hch (by rw [g3])
   have nB : ¬ ChB ops K E H k := by rintro ⟨_, o2, ho2, _, hch⟩; exact hch (by rw [g3])
   refine ⟨_, F', G, g2, hF, ?_, ⟨fun _ => ⟨_, rfl⟩, fun s hs => by rw [pex, g1] at hs; cases hs⟩, fun hc => absurd hc nO, fun _ => rfl, fun hc => absurd hc nB, fun _ => rfl, fun hc => absurd hc nO, fun hc => absurd hc nB⟩
   unfold astep
   rw [← aguard_same hag, g1]
   simp only [Option.bind_some, Bool.false_eq_true, if_false]
   have : aput nt o.dst (.v (.tuple [])) F = some F' := hF
   rw [this]
   rfl
 obtain ⟨w, F', G', wl, wF, hstep, hdst, kO, nO, kB, nB, rO, rB⟩ := key
 refine ⟨F', G', hstep, ⟨by simpa using v.sz, fun j oj hoj hj e hem hb => ?_, fun t i hi hc => ?_, fun i hi hc => ?_, fun i hi hc => ?_, fun p hp s off hps oo hoo => ?_⟩⟩
 ·rw [set_get L k j hkL] at hj
  rw [set_get L k e.on hkL]
  rcases hj with rfl | hj
  ·rw [ho] at hoj; cases hoj
   exact .inr (he e hem hb)
  ·exact .inr (v.cl j oj hoj hj e hem hb)
 ·by_cases hwk : Wr ops K E k t
  ·have hki : k < i := (hc k hwk).2 ((set_get L k k hkL).2 (.inl rfl))
   have h1 : alook F' t = alook (E (k + 1)) t := by
    by_cases hw : ∃ x, w = some (t, x)
    ·obtain ⟨x, rfl⟩ := hw
     rw [alay_look_eq wF, alay_look_eq wl]
    ·have hne : ∀ x, w ≠ some (t, x) := fun x hx => hw ⟨x, hx⟩
     rw [alay_look wF t hne, alay_look wl t hne]
     refine slk t (.inr ?_)
     obtain ⟨_, o2, ho2, hw2⟩ := hwk
     rw [ho] at ho2
     cases ho2
     rcases hw2 with hw2 | hw2
     ·cases hso : pex ops (E k) o with
      | some s' =>
        have := (hdst.2 s' hso).1
        rw [hw2] at this
        cases this
      | none =>
        obtain ⟨s, hs'⟩ := hdst.1 hso
        rw [hw2] at hs'; exact absurd hs' (hne s)
     ·exact hw2
   rw [h1]
   refine (h.slots (p := k + 1) (q := i) (by omega) hi fun j hj hh => ?_).symm
   have hjk : j ≠ k := by omega
   have hl : L[j]? = some true := by
    rcases (set_get L k j hkL).1 ((hc j hj).1 hh.2) with h2 | h2
    ·exact absurd h2 hjk
    ·exact h2
   obtain ⟨_, o2, ho2, hw2⟩ := hwk
   rw [ho] at ho2
   cases ho2
   have : j < k := (ordw j t hj hjk (by
    rcases hw2 with hw2 | hw2
    ·refine .inl ?_
     unfold anames
     rw [hw2]
     simp
    ·exact .inr hw2)).2 hl
   omega
  ·have hne : ∀ x, w ≠ some (t, x) := by
    intro x hx
    cases hso : pex ops (E k) o with
    | some s' =>
      obtain ⟨_, y, rfl⟩ := hdst.2 s' hso
      cases hx
      exact hwk ⟨hkK, o, ho, .inr hso⟩
    | none =>
      obtain ⟨s, rfl⟩ := hdst.1 hso
      rw [Option.map_eq_some_iff] at hx
      obtain ⟨d, hd, hx⟩ := hx
      cases hx
      exact hwk ⟨hkK, o, ho, .inl hd⟩
   rw [alay_look wF t hne]
   refine v.sl t i hi fun j hj => ?_
   have hjk : j ≠ k := fun e => hwk (e ▸ hj)
   rw [hc j hj, set_get L k j hkL]
   exact ⟨fun h2 => h2.resolve_left hjk, .inr⟩
 ·by_cases hck : ChO ops K E H k
  ·have hki : k < i := (hc k hck).2 ((set_get L k k hkL).2 (.inl rfl))
   rw [kO hck]
   refine (h.objs (p := k + 1) (q := i) (by omega) hi fun j hj hh => ?_).symm
   have hjk : j ≠ k := by omega
   have hl : L[j]? = some true := by
    rcases (set_get L k j hkL).1 ((hc j hj).1 hh.2) with h2 | h2
    ·exact absurd h2 hjk
    ·exact h2
   have : j < k := (rO hck j hj hjk).2 hl
   omega
  ·rw [nO hck]
   refine v.ob i hi fun j hj => ?_
   have hjk : j ≠ k := fun e => hck (e ▸ hj)
   rw [hc j hj, set_get L k j hkL]
   exact ⟨fun h2 => h2.resolve_left hjk, .inr⟩
 ·by_cases hck : ChB ops K E H k
  ·have hki : k < i := (hc k hck).2 ((set_get L k k hkL).2 (.inl rfl))
   rw [kB hck]
   refine (h.bufs (p := k + 1) (q := i) (by omega) hi fun j hj hh => ?_).symm
   have hjk : j ≠ k := by omega
   have hl : L[j]? = some true := by
    rcases (set_get L k j hkL).1 ((hc j hj).1 hh.2) with h2 | h2
    ·exact absurd h2 hjk
    ·exact h2
   have : j < k := (rB hck j hj hjk).2 hl
   omega
  ·rw [nB hck]
   refine v.bf i hi fun j hj => ?_
   have hjk : j ≠ k := fun e => hck (e ▸ hj)
   rw [hc j hj, set_get L k j hkL]
   exact ⟨fun h2 => h2.resolve_left hjk, .inr⟩
 ·rcases alay_mem wF p hp with hm | hm
  ·exact v.pl p hm s off hps oo hoo
  ·subst hm
   exact h.places hs h0 (k + 1) (by omega) p (alay_in wl) s off hps oo hoo
end
theorem swn_swn (m t : Nat) : swn m (swn m t) = t := by
 unfold swn
 by_cases h1 : t = m
 ·subst h1; simp
 ·by_cases h2 : t = m + 1
  ·subst h2; simp
  ·simp [h1, h2]
theorem swn_lt {m t n : Nat} (hm : m + 1 < n) (h : t < n) : swn m t < n := by
 unfold swn
 split
 ·omega
 ·split
  ·omega
  ·exact h
theorem swn_old {m t : Nat} (h : t < m) : swn m t = t := by
 unfold swn
 rw [if_neg (by omega), if_neg (by omega)]
theorem swL_eq (m : Nat) : ∀ l : List AV, swL m l = l.map (AV.sw m)
 | [] => rfl
 | x :: l => by rw [swL, swL_eq m l]; rfl
theorem swB_split {m : Nat} {l : List ABuf} (hm : m + 1 < l.length) : ∃ x y r, l = l.take m ++ x :: y :: r ∧ swB m l = l.take m ++ y :: x :: r := by
 have h0 : l.drop m = l[m] :: l[m + 1] :: l.drop (m + 2) := by
  rw [List.drop_eq_getElem_cons (by omega), List.drop_eq_getElem_cons hm]
 refine ⟨l[m], l[m + 1], l.drop (m + 2), ?_, ?_⟩
 ·rw [← h0, List.take_append_drop]
 ·unfold swB
  rw [h0]
theorem swB_get {m : Nat} {l : List ABuf} (hm : m + 1 < l.length) (t : Nat) : (swB m l)[t]? = l[swn m t]? := by
 obtain ⟨x, y, r, h1, h2⟩ := swB_split hm
 have hl : (l.take m).length = m := by simp; omega
 generalize l.take m = p at h1 h2 hl
 rw [h2, h1]
 rcases Nat.lt_or_ge t m with h | h
 ·rw [swn_old h, List.getElem?_append_left (by omega), List.getElem?_append_left (by omega)]
 ·rw [List.getElem?_append_right (by omega)]
  unfold swn
  by_cases e1 : t = m
  ·subst e1
   rw [if_pos rfl, List.getElem?_append_right (by omega)]
   simp [hl]
  ·by_cases e2 : t = m + 1
   ·subst e2
    rw [if_neg e1, if_pos rfl, List.getElem?_append_right (by omega)]
    simp [hl]
   ·rw [if_neg e1, if_neg e2, List.getElem?_append_right (by omega)]
    obtain ⟨k, hk⟩ : ∃ k, t - p.length = k + 2 := ⟨t - p.length - 2, by omega⟩
    rw [hk]
    simp
theorem swB_len {m : Nat} {l : List ABuf} (hm : m + 1 < l.length) : (swB m l).length = l.length := by
 obtain ⟨x, y, r, h1, h2⟩ := swB_split hm
 have e1 := congrArg List.length h1
 have e2 := congrArg List.length h2
 simp only [List.length_append, List.length_cons] at e1 e2
 omega
def Owner.sw (m : Nat) : Owner → Owner
 | .obj i => .obj i
 | .buf t => .buf (swn m t)
def Gh.sw (m : Nat) (g : Gh) : Gh := ⟨g.S, g.ob, fun t => g.bf (swn m t), fun b => (g.own b).map (Owner.sw m)⟩
section
variable {W : World} {g : Gh} {A : AHeap} {m : Nat}
theorem sw_bf (m t : Nat) (g : Gh) : (g.sw m).bf (swn m t) = g.bf t := by simp only [Gh.sw, swn_swn]
theorem sw_bufs (hm : m + 1 < A.bufs.length) (t : Nat) : (A.sw m).bufs[swn m t]? = A.bufs[t]? := by
 simp only [AHeap.sw]
 rw [swB_get hm, swn_swn]
theorem sw_blen (hm : m + 1 < A.bufs.length) : (A.sw m).bufs.length = A.bufs.length := swB_len hm
theorem sw_olen : (A.sw m).objs.length = A.objs.length := by simp [AHeap.sw]
theorem sw_own {b : Nat} {o : Owner} (h : g.own b = some o) : (g.sw m).own b = some (o.sw m) := by simp only [Gh.sw, h, Option.map_some]
theorem sw_none {b : Nat} (h : g.own b = none) : (g.sw m).own b = none := by simp only [Gh.sw, h, Option.map_none]
theorem swL_get {l : List AV} {i : Nat} {x : AV} (h : (swL m l)[i]? = some x) : ∃ y, l[i]? = some y ∧ x = y.sw m := by
 rw [swL_eq, List.getElem?_map, Option.map_eq_some_iff] at h
 obtain ⟨y, h1, h2⟩ := h
 exact ⟨y, h1, h2.symm⟩
theorem swL_len (l : List AV) : (swL m l).length = l.length := by rw [swL_eq, List.length_map]
theorem RelV.sw (hm : m + 1 < A.bufs.length) {x : AV} {v : Value} (r : RelV W g A x v) : RelV W (g.sw m) (A.sw m) (x.sw m) v := by
 induction r with
 | d x v hx => rw [AV.sw]; exact .d x v hx
 | nilS => rw [AV.sw]; exact .nilS
 | full rows a hx => rw [AV.sw]; exact .full rows a hx
 | own tok len a cap ht hx =>
   rw [AV.sw]
   refine .own _ len a cap (by rw [sw_blen hm]; exact swn_lt hm ht) fun b hb => ?_
   rw [sw_bufs hm] at hb
   rw [sw_bf]
   exact hx b hb
 | nilP => rw [AV.sw]; exact .nilP
 | ptr id off hi => rw [AV.sw]; exact .ptr id off (by rw [sw_olen]; exact hi)
 | sptr ds b o val hcell hval => rw [AV.sw]; exact .sptr ds b o val hcell hval
 | eptr tok len i off v ht hx =>
   rw [AV.sw]
   refine .eptr _ len i off v (by rw [sw_blen hm]; exact swn_lt hm ht) fun b hb => ?_
   rw [sw_bufs hm] at hb
   rw [sw_bf]
   exact hx b hb
 | nilF => rw [AV.sw]; exact .nilF
 | nilI => rw [AV.sw]; exact .nilI
 | nilM => rw [AV.sw]; exact .nilM
 | func fn first captured vs us h1 h2 r1 r2 ih1 ih2 =>
   rw [AV.sw]
   refine .func fn _ _ vs us (by rw [swL_len]; exact h1) (by rw [swL_len]; exact h2) (fun i x v hx hv => ?_) (fun i x v hx hv => ?_)
   ·obtain ⟨y, h3, rfl⟩ := swL_get hx
    exact ih1 i y v h3 hv
   ·obtain ⟨y, h3, rfl⟩ := swL_get hx
    exact ih2 i y v h3 hv
 | mapr id hi => rw [AV.sw]; exact .mapr id (by rw [sw_olen]; exact hi)
 | agg cs vs hl r ih =>
   rw [AV.sw]
   refine .agg _ vs (by rw [swL_len]; exact hl) (fun i x v hx hv => ?_)
   obtain ⟨y, h3, rfl⟩ := swL_get hx
   exact ih i y v h3 hv
 | tuple cs vs hl r ih =>
   rw [AV.sw]
   refine .tuple _ vs (by rw [swL_len]; exact hl) (fun i x v hx hv => ?_)
   obtain ⟨y, h3, rfl⟩ := swL_get hx
   exact ih i y v h3 hv
theorem RelL.sw (hm : m + 1 < A.bufs.length) {cs : List AV} {vs : List Value} (r : RelL W g A cs vs) : RelL W (g.sw m) (A.sw m) (swL m cs) vs :=
 ⟨by rw [swL_len]; exact r.1, fun i x v h1 h2 => by
  obtain ⟨y, h3, rfl⟩ := swL_get h1
  exact (r.2 i y v h3 h2).sw hm⟩
theorem ObjAt.sw (hm : m + 1 < A.bufs.length) {blk : Nat} {o : AObj} (r : ObjAt W g A blk o) : ObjAt W (g.sw m) (A.sw m) blk (o.sw m) := by
 cases o with
 | cells cs =>
   obtain ⟨vs, T, h1, h2⟩ := r
   exact ⟨vs, T, h1, h2.sw hm⟩
 | tcells T cs =>
   obtain ⟨vs, h1, h2⟩ := r
   exact ⟨vs, h1, h2.sw hm⟩
 | map es =>
   obtain ⟨mes, clock, h1, h2, h3⟩ := r
   refine ⟨mes, clock, h1, by simpa using h2, fun i k x e hk he => ?_⟩
   rw [List.getElem?_map, Option.map_eq_some_iff] at hk
   obtain ⟨⟨k', y⟩, h4, h5⟩ := hk
   cases h5
   obtain ⟨h6, h7⟩ := h3 i k' y e h4 he
   exact ⟨h6, h7.sw hm⟩
 | iter s p => exact r
theorem WRel.sw (hm : m + 1 < A.bufs.length) (w : WRel W g A) : WRel W (g.sw m) (A.sw m) where
 obj id o h := by
  simp only [AHeap.sw, List.getElem?_map, Option.map_eq_some_iff] at h
  obtain ⟨o', h1, rfl⟩ := h
  obtain ⟨h2, h3⟩ := w.obj id o' h1
  exact ⟨sw_own (m := m) h2, h3.sw hm⟩
 buf tok b h := by
  have h' : A.bufs[swn m tok]? = some b := by
   rw [← sw_bufs hm, swn_swn]; exact h
  obtain ⟨e⟩ := w.buf _ b h'
  have e1 : (g.sw m).bf tok = g.bf (swn m tok) := rfl
  refine ⟨?_⟩
  rcases e with ⟨h1, blk, cap, vs, k1, k2, k3⟩ | ⟨h1, blk, cap, k1, k2⟩
  ·refine .inl ⟨h1, blk, cap, vs, by rw [e1]; exact k1, ?_, k3⟩
   rw [sw_own k2, Owner.sw, swn_swn]
  ·refine .inr ⟨h1, blk, cap, by rw [e1]; exact k1, ?_⟩
   rw [sw_own k2, Owner.sw, swn_swn]
 lt blk o h := by
  simp only [Gh.sw, Option.map_eq_some_iff] at h
  obtain ⟨o', h1, _⟩ := h
  exact w.lt blk o' h1
 stab := w.stab
 sobj blk id o h := by
  simp only [Gh.sw, Option.map_eq_some_iff] at h
  obtain ⟨o', h1, h2⟩ := h
  cases o' with
  | obj i => exact w.sobj blk i o h1
  | buf t => cases h2
variable {W0 : World} {g0 : Gh} {A0 : AHeap} {nt : Nat} {env env' : AEnv} {a : Act} {β : Nat → Nat}
theorem StG.sw (s : StG W0 g0 A0 nt env A a W g β) (hm : m + 1 < A.bufs.length) (h0 : A0.bufs.length ≤ m) (he : ∀ t x, alook env' t = some x → (alook env t).map (Slot.sw m) = some x) :
  StG W0 g0 A0 nt env' (A.sw m) a W (g.sw m) β where
 w := s.w.sw hm
 e := by
   have look : ∀ t x, alook env' t = some x → ∃ y, alook env t = some y ∧ y.sw m = x := fun t x hx => by
    have := he t x hx
    rw [Option.map_eq_some_iff] at this
    exact this
   have box : ∀ t cs, alook env' t = some (.box cs) → ∃ ds, alook env t = some (.box ds) := fun t cs hx => by
    obtain ⟨y, h1, h2⟩ := look t _ hx
    cases y with
    | box ds => exact ⟨ds, h1⟩
    | v x => cases h2
    | place q o => cases h2
   refine ⟨s.e.size, fun t x hx => ?_, fun p q c d h1 h2 h3 => ?_, fun t c h1 => ?_⟩
   ·obtain ⟨y, h1, rfl⟩ := look t x hx
    cases s.e.slot t y h1 with
    | v z u h2 r => exact .v _ u h2 (r.sw hm)
    | box cs h2 vs T h3 r ho hS => exact .box _ h2 vs T h3 (r.sw hm) (sw_none ho) hS
    | place q off h2 => exact .place q off h2
   ·obtain ⟨c', h1'⟩ := box p c h1
    obtain ⟨d', h2'⟩ := box q d h2
    exact s.e.inj p q c' d' h1' h2' h3
   ·obtain ⟨c', h1'⟩ := box t c h1
    exact s.e.young t c' h1'
 ev := by
  refine ⟨⟨s.ev.size, s.ev.stab, s.ev.ob, by rw [sw_olen]; exact s.ev.objs, fun tok b hb => ?_, s.ev.rest⟩, fun b hb hn => ?_⟩
  ·obtain ⟨b', h1, h2, h3, h4⟩ := s.ev.bufs tok b hb
   have ht : swn m tok = tok := swn_old (Nat.lt_of_lt_of_le (lt_of_get hb) h0)
   refine ⟨b', ?_, h2, h3, fun hh => ?_⟩
   ·rw [← ht, sw_bufs hm]; exact h1
   ·show g.bf (swn m tok) = _
    rw [ht]; exact h4 hh
  ·obtain ⟨h1, h2, h3⟩ := s.ev.free b hb hn
   exact ⟨h1, sw_none h2, h3⟩
 df := s.df
theorem St.agree {e1 : AEnv} {A1 : AHeap} (h : aagree m env' A e1 A1) (h0 : A0.bufs.length ≤ m) (st : St W0 g0 A0 nt e1 A1 a W) : St W0 g0 A0 nt env' A a W := by
 obtain ⟨g, β, s⟩ := st
 rcases h with ⟨rfl, h⟩ | ⟨hm, rfl, h⟩
 ·exact ⟨g, β, s.w, ⟨s.e.size, fun t x hx => s.e.slot t x (h t x hx), fun p q c d h1 h2 h3 => s.e.inj p q c d (h p _ h1) (h q _ h2) h3, fun t c h1 => s.e.young t c (h t _ h1)⟩, s.ev, s.df⟩
 ·exact ⟨_, β, s.sw hm h0 h⟩
end
section
variable {P : Program} {W W' W0 : World} {g g' g0 : Gh} {A A' A0 : AHeap} {nt : Nat} {β : Nat → Nat} {env env' : AEnv} {a : Act} {Q : Exit → Act → World → Prop} {c : ACtx} {call : FuncId → AFun} {f : FuncId} {ops : Array Oper}
theorem StG.sub (s : StG W0 g0 A0 nt env A a W g β) (h : ∀ t x, alook env' t = some x → alook env t = some x) : StG W0 g0 A0 nt env' A a W g β :=
 ⟨s.w, ⟨s.e.size, fun t x hx => s.e.slot t x (h t x hx), fun p q c1 c2 h1 h2 h3 => s.e.inj p q c1 c2 (h _ _ h1) (h _ _ h2) h3, fun t cs hx => s.e.young t cs (h _ _ hx)⟩, s.ev, s.df⟩
theorem StG.same (s : StG W0 g0 A0 nt env A a W g β) (h : W'.heap = W.heap) (hr : Rest W W') : StG W0 g0 A0 nt env A a W' g β :=
 ⟨s.w.same h hr, s.e.ev (Ev.same h hr), s.ev.trans (Ev.same h hr), s.df⟩
theorem akeep_look {t : Nat} {x : Slot} : ∀ {ts : List Nat}, alook (akeep env ts) t = some x → alook env t = some x
 | [], h => by cases h
 | q :: ts, h => by
   unfold akeep at h
   split at h
   ·rename_i y hy
    rw [alook] at h
    split at h
    ·rename_i hq; subst hq; cases h; exact hy
    ·exact akeep_look h
   ·exact akeep_look h
theorem atrim_look {r : Option Nat} {t : Nat} {x : Slot} (h : alook (atrim c f r env) t = some x) : alook env t = some x := by
 unfold atrim at h
 split at h
 ·exact akeep_look h
 ·exact h
theorem aguard_wanted (s : StG W0 g0 A0 nt env A a W g β) {o : Oper} {b : Bool} (h : aguard ops env o = some b) : Region.wanted o (yielded ops a.tmps) = b := by
 unfold aguard at h
 unfold Region.wanted
 cases hg : o.guard with
 | none => rw [hg] at h; cases h; rfl
 | some p =>
   obtain ⟨j, w⟩ := p
   rw [hg] at h
   simp only at h ⊢
   cases hd : (ops[j]?).bind (·.dst) with
   | none => rw [hd] at h; cases h
   | some t =>
     rw [hd] at h
     simp only at h
     split at h
     ·rename_i x hx
      cases s.e.slot t _ hx with
      | v _ u hu r =>
      unfold agt at h
      split at h
      ·rename_i b' w'
       cases h
       have := r.dBool
       subst this
       simp only [yielded, hd, Option.bind_some, hu]
       cases b' <;> cases w <;> rfl
      ·cases h
       cases r with
       | tuple _ vs hl _ =>
       have : vs = [] := by cases vs with | nil => rfl | cons _ _ => simp at hl
       subst this
       simp only [yielded, hd, Option.bind_some, hu]
       rfl
      ·cases h
     ·cases h
theorem astep_wp (hc : CallAt W0 g0 c.P call) (s : StG W0 g0 A0 nt env A a W g β) {i : Nat} {o : Oper} (ho : ops[i]? = some o) (h : astep c call f nt ops o env A = some (env', A')) : wpOp c.P ops Q i (St W0 g0 A0 nt env' A') a W := by
 unfold astep at h
 rw [Option.bind_eq_some_iff] at h
 obtain ⟨b, hb, h⟩ := h
 have hw := aguard_wanted s hb
 unfold wpOp
 simp only [ho, hw]
 cases b with
 | true =>
   simp only [if_true] at h ⊢
   exact .inl (aop_wp hc s h)
 | false =>
   simp only [Bool.false_eq_true, if_false, Option.map_eq_some_iff] at h ⊢
   obtain ⟨e1, he, h⟩ := h
   cases h
   exact ⟨g, β, s.value undef_rel s.w (.refl _ _ _) he⟩
theorem aops_wp (hc : CallAt W0 g0 c.P call) : ∀ (l : List Oper) (i : Nat) {env : AEnv} {A : AHeap} {a : Act} {W : World} {env' : AEnv} {A' : AHeap}, l = ops.toList.drop i → aops c call f nt ops l env A = some (env', A') →
  St W0 g0 A0 nt env A a W → (∀ a W, St W0 g0 A0 nt env' A' a W → Q .normal a W) → wpOps c.P ops Q (List.range' i l.length) a W
 | [], i, env, A, a, W, env', A', hl, h, hs, hq => by
   simp only [aops] at h
   cases h
   exact hq a W hs
 | o :: l, i, env, A, a, W, env', A', hl, h, hs, hq => by
   simp only [aops, Option.bind_eq_some_iff] at h
   obtain ⟨⟨e1, A1⟩, h1, h2⟩ := h
   obtain ⟨g, β, s⟩ := hs
   have ho : ops[i]? = some o := by
    have : (ops.toList.drop i)[0]? = some o := by rw [← hl]; rfl
    rw [List.getElem?_drop, Nat.add_zero, Array.getElem?_toList] at this
    exact this
   have hl' : l = ops.toList.drop (i + 1) := by
    rw [← List.tail_drop, ← hl]; rfl
   simp only [List.length_cons, List.range'_succ, wpOps_cons]
   exact wpOp_mono (fun a' W' hs' => aops_wp hc l (i + 1) hl' h2 hs' hq) (astep_wp hc s ho h1)
theorem ready_mem {L : Array Bool} {i : Nat} (h : i ∈ Region.ready .any ops L) (hsz : L.size = ops.size) : ∃ o, ops[i]? = some o ∧ L[i]? = some false ∧ ∀ e ∈ o.after, Region.binds .any e = true → L[e.on]? = some true := by
 unfold Region.ready at h
 rw [List.mem_filter] at h
 obtain ⟨h1, h2⟩ := h
 have hi : i < ops.size := List.mem_range.1 h1
 have hil : i < L.size := by rw [hsz]; exact hi
 rw [Bool.and_eq_true] at h2
 obtain ⟨h2, h3⟩ := h2
 rw [Array.getElem?_eq_getElem hi] at h3
 simp only [Option.map_some, Option.getD_some, Array.all_eq_true'] at h3
 refine ⟨ops[i], Array.getElem?_eq_getElem hi, ?_, fun e he hb => ?_⟩
 ·rw [Array.getD_eq_getD_getElem?, Array.getElem?_eq_getElem hil] at h2
  simp only [Option.getD_some, Bool.not_eq_true'] at h2
  rw [Array.getElem?_eq_getElem hil, h2]
 ·have := h3 e he
  rw [hb] at this
  simp only [Bool.not_true, Bool.false_or] at this
  rw [Array.getD_eq_getD_getElem?] at this
  cases hx : L[e.on]? with
  | none => rw [hx] at this; cases this
  | some b => rw [hx] at this; simp at this; rw [this]
theorem ready_nil {L : Array Bool} (h : Region.ready .any ops L = []) (hsz : L.size = ops.size) (hs : Stat ops) : ∀ i, i < ops.size → L[i]? = some true := by
 intro i
 induction i using Nat.strongRecOn with
 | ind i ih =>
   intro hi
   have hil : i < L.size := by rw [hsz]; exact hi
   have hm : i ∉ Region.ready .any ops L := by rw [h]; exact List.not_mem_nil
   unfold Region.ready at hm
   rw [List.mem_filter] at hm
   cases hb : L[i] with
   | true => rw [Array.getElem?_eq_getElem hil, hb]
   | false =>
     exfalso
     apply hm
     refine ⟨List.mem_range.2 hi, ?_⟩
     rw [Bool.and_eq_true]
     refine ⟨?_, ?_⟩
     ·rw [Array.getD_eq_getD_getElem?, Array.getElem?_eq_getElem hil, hb]; rfl
     ·rw [Array.getElem?_eq_getElem hi]
      simp only [Option.map_some, Option.getD_some, Array.all_eq_true']
      intro e he
      cases hbd : Region.binds .any e with
      | false => rfl
      | true =>
        have hlt := hs.edge i _ (Array.getElem?_eq_getElem hi) e he hbd
        have := ih e.on hlt (by omega)
        rw [Array.getD_eq_getD_getElem?, this]
        rfl
theorem count_set {L : Array Bool} {i : Nat} (h : L[i]? = some false) : (L.setIfInBounds i true).toList.count false + 1 = L.toList.count false := by
 have hi : i < L.size := (Array.getElem?_eq_some_iff.1 h).1
 have hv : L.toList[i]? = some false := by rw [Array.getElem?_toList]; exact h
 rw [Array.toList_setIfInBounds]
 have key : ∀ (l : List Bool) (i : Nat), l[i]? = some false → (l.set i true).count false + 1 = l.count false := by
  intro l
  induction l with
  | nil => intro i h; simp at h
  | cons b l ih =>
    intro i h
    cases i with
    | zero => simp at h; subst h; simp
    | succ i =>
      simp only [List.set_cons_succ, List.count_cons]
      have := ih i (by simpa using h)
      omega
 exact key _ _ hv
theorem drawn_wp (hc : CallAt W0 g0 c.P call) {ms : List AMark} {E : Nat → AEnv} {H : Nat → AHeap} (h : Tr c call f nt ops ms ops.size E H) (hs : Stat ops) (hdr : adrawn ops ms) (h0 : PlaceOk ops (E 0))
  (hq : ∀ a W, St W0 g0 A0 nt (E ops.size) (H ops.size) a W → Q .normal a W) : ∀ (fuel : Nat) (L : Array Bool) (F : AEnv) (G : AHeap) (a : Act) (W : World), L.toList.count false = fuel → Inv ops ops.size E H L F G → St W0 g0 A0 nt F G a W → wpAny c.P .any ops Q fuel L a W := by
 have fin : ∀ {L : Array Bool} {F : AEnv} {G : AHeap} {a : Act} {W : World}, Inv ops ops.size E H L F G → St W0 g0 A0 nt F G a W → (∀ i, i < ops.size → L[i]? = some true) → Q .normal a W := by
  intro L F G a W v st hall
  apply hq
  have e1 : ∀ t, alook F t = alook (E ops.size) t := fun t => v.sl t _ (Nat.le_refl _) fun j hj => ⟨fun _ => hall j hj.1, fun _ => hj.1⟩
  have e2 : G.objs = (H ops.size).objs := v.ob _ (Nat.le_refl _) fun j hj => ⟨fun _ => hall j hj.1, fun _ => hj.1⟩
  have e3 : G.bufs = (H ops.size).bufs := v.bf _ (Nat.le_refl _) fun j hj => ⟨fun _ => hall j hj.1, fun _ => hj.1⟩
  have e4 : G = H ops.size := by
   cases hG : G; cases hH : H ops.size
   rw [hG, hH] at e2 e3
   simp only at e2 e3
   rw [e2, e3]
  obtain ⟨g, β, s⟩ := st
  refine ⟨g, β, ?_⟩
  rw [← e4]
  exact s.sub fun t x hx => by rw [e1 t]; exact hx
 intro fuel
 induction fuel with
 | zero =>
   intro L F G a W hcnt v st
   have hall : ∀ i, i < ops.size → L[i]? = some true := by
    intro i hi
    have hil : i < L.size := by rw [v.sz]; exact hi
    cases hb : L[i] with
    | true => rw [Array.getElem?_eq_getElem hil, hb]
    | false =>
      have : false ∈ L.toList := by rw [← hb]; simp
      have := List.count_pos_iff.2 this
      omega
   refine ⟨?_, fin v st hall⟩
   cases hr : Region.ready .any ops L with
   | nil => rfl
   | cons i rest =>
     obtain ⟨o, ho, hf, _⟩ := ready_mem (ops := ops) (L := L) (i := i) (by rw [hr]; exact List.mem_cons_self) v.sz
     have := hall i (Array.getElem?_eq_some_iff.1 ho).1
     rw [hf] at this
     cases this
 | succ fuel ih =>
   intro L F G a W hcnt v st
   refine ⟨fun hr => fin v st (ready_nil hr v.sz hs), fun i hi => ?_⟩
   obtain ⟨o, ho, hf, he⟩ := ready_mem hi v.sz
   obtain ⟨F', G', hst, v'⟩ := v.step h hs hdr h0 (Array.getElem?_eq_some_iff.1 ho).1 ho (by rw [hf]; intro e; cases e) he
   obtain ⟨g, β, s⟩ := st
   refine wpOp_mono (fun a' W' st' => ih _ F' G' a' W' ?_ v' st') (astep_wp hc s ho hst)
   have := count_set hf
   omega
theorem inv0 {K : Nat} {E : Nat → AEnv} {H : Nat → AHeap} (h0 : PlaceOk ops (E 0)) (hsl : ∀ t i, i ≤ K → (∀ j, Wr ops K E j t → ¬ j < i) → alook (E 0) t = alook (E i) t)
  (hob : ∀ i, i ≤ K → (∀ j, ChO ops K E H j → ¬ j < i) → (H 0).objs = (H i).objs) (hbf : ∀ i, i ≤ K → (∀ j, ChB ops K E H j → ¬ j < i) → (H 0).bufs = (H i).bufs) : Inv ops K E H (Array.replicate ops.size false) (E 0) (H 0) := by
 have hn : ∀ j : Nat, (Array.replicate ops.size false)[j]? ≠ some true := by
  intro j h
  rw [Array.getElem?_replicate] at h
  split at h <;> cases h
 exact ⟨by simp, fun j o _ hj => absurd hj (hn j), fun t i hi hc => hsl t i hi fun j hj hl => hn j ((hc j hj).1 hl), fun i hi hc => hob i hi fun j hj hl => hn j ((hc j hj).1 hl), fun i hi hc => hbf i hi fun j hj hl => hn j ((hc j hj).1 hl), h0⟩
theorem StG.promote1 (s : StG W0 g0 A0 nt env A a W g β) {d : Nat} {cs : List AV} (h : alook env d = some (.box cs)) :
  ∃ g', StG W0 g0 A0 nt ((d, .v (.ptr A.objs.length 0)) :: env) { A with objs := A.objs ++ [.cells cs] } a W g' β := by
 have hw := s.w
 cases s.e.slot d _ h with
 | box _ h1 vs T hb hr ho hS =>
 have hN := s.e.young d _ h
 have ev : EvV W g A W (g.newObj A.objs.length (β d)) { A with objs := A.objs ++ [.cells cs] } := by
  refine ⟨Nat.le_refl _, fun b o hs => ⟨hs, rfl⟩, fun id hid => ?_, by simp, fun t b hb => ⟨b, hb, rfl, Nat.le_refl _, fun _ => rfl⟩, .refl W⟩
  simp [Gh.newObj]; omega
 have own' : ∀ b o, g.own b = some o → (g.newObj A.objs.length (β d)).own b = some o := by
  intro b o hb'
  have : b ≠ β d := fun e => by rw [e, ho] at hb'; cases hb'
  simp [Gh.newObj, this, hb']
 refine ⟨g.newObj A.objs.length (β d), ⟨⟨fun id o hid => ?_, fun t b hbt => ?_, fun blk o hbo => ?_, hw.stab, fun blk id o hbo hs => ?_⟩, ⟨s.e.size, fun t x hx => ?_, fun p q c1 c2 e1 e2 e3 => ?_, fun t c e1 => ?_⟩, ⟨s.ev.toEvV.trans ev, fun b hb' hbo => ?_⟩, s.df⟩⟩
 ·rcases Nat.lt_or_ge id A.objs.length with hlt | hge
  ·simp only at hid
   rw [List.getElem?_append_left hlt] at hid
   obtain ⟨k1, k2⟩ := hw.obj id o hid
   rw [ev.ob id hlt]
   exact ⟨own' _ _ k1, k2.ev ev rfl⟩
  ·simp only at hid
   rw [List.getElem?_append_right hge] at hid
   have hid0 := lt_of_get hid
   simp at hid0
   have : id = A.objs.length := by omega
   subst this
   simp at hid
   subst hid
   refine ⟨by simp [Gh.newObj], vs, T, by simpa [Gh.newObj] using hb, ev.relL hr⟩
 ·exact (hw.buf t b hbt).keep rfl (fun blk hb' => own' _ _ hb') (fun _ _ => rfl) (fun _ _ _ x => x) (fun _ _ r => ev.relD r)
 ·simp only [Gh.newObj] at hbo
  split at hbo
  ·rename_i e; rw [e]; exact lt_heap hb
  ·exact hw.lt _ _ hbo
 ·simp only [Gh.newObj] at hbo
  split at hbo
  ·rename_i e; subst e; exact hS o hs
  ·exact hw.sobj _ _ _ hbo hs
 ·rw [alook_cons_eq] at hx
  split at hx
  ·rename_i ht
   subst ht
   cases hx
   refine .v _ _ h1 ?_
   have := RelV.ptr (W := W) (g := g.newObj A.objs.length (β d)) (A := { A with objs := A.objs ++ [.cells cs] }) A.objs.length 0 (by simp)
   simpa [Gh.newObj] using this
  ·rename_i ht
   cases hsl : s.e.slot t x hx with
   | v y u k1 r => exact .v y u k1 (ev.relV r)
   | box c k1 vs2 T2 k2 r2 ho2 hs2 =>
     have hne : β t ≠ β d := fun e => ht (s.e.inj t d _ _ hx h e).symm
     exact .box c k1 vs2 T2 k2 (ev.relL r2) (by simp [Gh.newObj, hne, ho2]) hs2
   | place q off k1 => exact .place q off k1
 ·rw [alook_cons_eq] at e1 e2
  split at e1
  ·cases e1
  ·split at e2
   ·cases e2
   ·exact s.e.inj p q c1 c2 e1 e2 e3
 ·rw [alook_cons_eq] at e1
  split at e1
  ·cases e1
  ·exact s.e.young t c e1
 ·obtain ⟨k1, k2, k3⟩ := s.ev.free b hb' hbo
  have : b ≠ β d := by omega
  exact ⟨k1, by simp [Gh.newObj, this, k2], k3⟩
theorem StG.promote {esc : List Nat} : ∀ (l : List Oper) {env : AEnv} {A : AHeap} {g : Gh}, StG W0 g0 A0 nt env A a W g β → ∃ g', StG W0 g0 A0 nt (apromote esc l env A).1 (apromote esc l env A).2 a W g' β
 | [], env, A, g, s => ⟨g, s⟩
 | o :: l, env, A, g, s => by
   unfold apromote
   split
   ·exact StG.promote l s
   ·split
    ·split
     ·rename_i hc
      obtain ⟨g', s'⟩ := s.promote1 hc
      exact StG.promote l s'
     ·exact StG.promote l s
    ·exact StG.promote l s
theorem exp_wp (hc : CallAt W0 g0 c.P call) {q : AEnv → AHeap → Prop} (hq : ∀ env A a W, q env A → St W0 g0 A0 nt env A a W → Q .normal a W) : ∀ (n : Nat) {L : Array Bool} {env : AEnv} {A : AHeap} {a : Act} {W : World},
  aexp c call f nt ops q n L env A → St W0 g0 A0 nt env A a W → wpAny c.P .any ops Q n L a W
 | 0, L, env, A, a, W, h, st => ⟨h.1, hq _ _ _ _ h.2 st⟩
 | n + 1, L, env, A, a, W, h, st => by
   refine ⟨fun hr => hq _ _ _ _ (h.1 hr) st, fun i hi => ?_⟩
   obtain ⟨o, r, ho, hs, hx⟩ := h.2 i hi
   obtain ⟨g, β, s⟩ := st
   exact wpOp_mono (fun a' W' st' => exp_wp hc hq n hx st') (astep_wp hc s ho hs)
theorem aregion_wp (hm : c.P.follows .mixedOrders = true) (hc : CallAt W0 g0 c.P call) {id : Nat} {draw : Bool} (hk : (!draw || adrawStatic ops) = true) (h : aregion c call f nt ops draw env A = some (env', A')) (st : St W0 g0 A0 nt env A a W)
  (hq : ∀ a W, St W0 g0 A0 nt env' A' a W → Q .normal a W) : (Code.region id ops draw).wp c.P Q a W := by
 unfold aregion at h
 cases draw with
 | false =>
   simp only [Bool.false_eq_true, if_false] at h
   refine wp_region ?_
   have := aops_wp (Q := Q) hc ops.toList 0 (by simp) h st hq
   rw [List.range_eq_range']
   simpa using this
 | true =>
   simp only [if_true, Option.bind_eq_some_iff] at h
   obtain ⟨⟨⟨e1, A1⟩, ms⟩, htr, h⟩ := h
   split at h
   case isFalse => cases h
   rename_i hdr
   have hq' : ∀ a W, St W0 g0 A0 nt e1 A1 a W → Q .normal a W := by
    rintro a W ⟨g, β, s⟩
    obtain ⟨g', s'⟩ := s.promote (esc := c.esc f) ops.toList
    simp only [Option.some.injEq] at h
    rw [h] at s'
    exact hq a W ⟨g', β, s'⟩
   rcases hdr with hdr | hexp
   rotate_left
   ·obtain ⟨g, β, s⟩ := st
    have hlen : A0.bufs.length ≤ A.bufs.length := by
     rcases Nat.lt_or_ge A.bufs.length A0.bufs.length with hlt | hge
     ·exact absurd (s.ev.lenBufs hlt) (Nat.lt_irrefl _)
     ·exact hge
    exact wp_region_any hm (exp_wp (c := c.noesc) hc (fun env A a W ha st => hq' a W (St.agree ha hlen st)) _ hexp ⟨g, β, (s.sub fun t x hx => noPlaces_look hx).same rfl ⟨rfl, rfl⟩⟩)
   have hs : Stat ops := stat_of (by simpa using hk)
   obtain ⟨E, H, q1, q2, q3, q4, q5⟩ := trace_spec ops.toList 0 _ _ _ _ _ htr
   simp only [Nat.zero_add, Array.length_toList] at q3 q4 q5
   have tr : Tr c.noesc call f nt ops ms ops.size E H := ⟨Nat.le_refl _, fun k o _ ho => q5 k o (by rw [Array.getElem?_toList]; exact ho)⟩
   have h0 : PlaceOk ops (E 0) := by rw [q1]; exact noPlaces_ok env
   refine wp_region_any hm (drawn_wp (c := c.noesc) hc tr hs hdr h0 (by rw [q3, q4]; exact hq') _ _ (E 0) (H 0) a _ (by simp) (inv0 h0 (fun t i hi hw => ?_) (fun i hi hw => ?_) (fun i hi hw => ?_)) ?_)
   ·exact (tr.slots (Nat.zero_le _) hi fun j hj hh => hw j hj hh.2).symm
   ·exact (tr.objs (Nat.zero_le _) hi fun j hj hh => hw j hj hh.2).symm
   ·exact (tr.bufs (Nat.zero_le _) hi fun j hj hh => hw j hj hh.2).symm
   ·obtain ⟨g, β, s⟩ := st
    rw [q1, q2]
    exact ⟨g, β, (s.sub fun t x hx => noPlaces_look hx).same rfl ⟨rfl, rfl⟩⟩
def AEx.exit' : AEx → Exit
 | .normal => .normal
 | .exit id => .exit id
 | .ret => .ret
theorem aloop_wp {b : Code} {body : AEnv → AHeap → ARes} {trim : AEnv → AEnv} (ht : ∀ env t x, alook (trim env) t = some x → alook env t = some x)
  (hb : ∀ {env : AEnv} {A : AHeap} {x : AEx} {env' : AEnv} {A' : AHeap} {a : Act} {W : World} {Q : Exit → Act → World → Prop}, body env A = some (x, env', A') → St W0 g0 A0 nt env A a W → (∀ a W, St W0 g0 A0 nt env' A' a W → Q x.exit' a W) → b.wp P Q a W) :
  ∀ (n : Nat) {env : AEnv} {A : AHeap} {x : AEx} {env' : AEnv} {A' : AHeap} {a : Act} {W : World}, aloop body trim n env A = some (x, env', A') → St W0 g0 A0 nt env A a W → (∀ a W, St W0 g0 A0 nt env' A' a W → Q x.exit' a W) → Code.rounds P b Q n a W
 | 0, env, A, x, env', A', a, W, h, _, _ => by simp only [aloop] at h; cases h
 | n + 1, env, A, x, env', A', a, W, h, st, hq => by
   simp only [aloop, Option.bind_eq_some_iff] at h
   obtain ⟨⟨y, e1, A1⟩, h1, h2⟩ := h
   obtain ⟨g, β, s⟩ := st
   refine hb h1 ⟨g, β, s.sub (ht env)⟩ fun a' W' st' => ?_
   cases y with
   | normal => exact aloop_wp ht hb n h2 st' hq
   | exit id => cases h2; exact hq a' W' st'
   | ret => cases h2; exact hq a' W' st'
theorem acode_wp (hm : c.P.follows .mixedOrders = true) (hc : CallAt W0 g0 c.P call) {lf : Nat} : ∀ (code : Code) {env : AEnv} {A : AHeap} {x : AEx} {env' : AEnv} {A' : AHeap} {a : Act} {W : World} {Q : Exit → Act → World → Prop}, acheck code = true →
  acode c call f nt lf code env A = some (x, env', A') → St W0 g0 A0 nt env A a W → (∀ a W, St W0 g0 A0 nt env' A' a W → Q x.exit' a W) → code.wp c.P Q a W
 | .skip, env, A, x, env', A', a, W, Q, hk, h, st, hq => by
   simp only [acode] at h
   cases h
   exact Go.wp_skip (hq a W st)
 | .region id ops draw, env, A, x, env', A', a, W, Q, hk, h, st, hq => by
   simp only [acode, Option.map_eq_some_iff] at h
   obtain ⟨⟨e1, A1⟩, h1, h⟩ := h
   cases h
   simp only [acheck] at hk
   obtain ⟨g, β, s⟩ := st
   exact aregion_wp hm hc hk h1 ⟨g, β, s.sub fun t x hx => atrim_look hx⟩ hq
 | .seq p q, env, A, x, env', A', a, W, Q, hk, h, st, hq => by
   simp only [acode, Option.bind_eq_some_iff] at h
   obtain ⟨⟨y, e1, A1⟩, h1, h2⟩ := h
   simp only [acheck, Bool.and_eq_true] at hk
   refine wp_seq (acode_wp hm hc p hk.1 h1 st fun a' W' st' => ?_)
   cases y with
   | normal => exact acode_wp hm hc q hk.2 h2 st' hq
   | exit id => cases h2; exact hq a' W' st'
   | ret => cases h2; exact hq a' W' st'
 | .cond cnd p q, env, A, x, env', A', a, W, Q, hk, h, st, hq => by
   simp only [acode] at h
   simp only [acheck, Bool.and_eq_true] at hk
   split at h
   ·rename_i b hb
    obtain ⟨g, β, s⟩ := st
    refine wp_cond (aeval_rel s.e hb).dBool ?_
    cases b with
    | true => simp only [if_true] at h ⊢; exact acode_wp hm hc p hk.1 h ⟨g, β, s⟩ hq
    | false => simp only [Bool.false_eq_true, if_false] at h ⊢; exact acode_wp hm hc q hk.2 h ⟨g, β, s⟩ hq
   ·cases h
 | .block id b, env, A, x, env', A', a, W, Q, hk, h, st, hq => by
   simp only [acode, Option.map_eq_some_iff] at h
   obtain ⟨⟨y, e1, A1⟩, h1, h2⟩ := h
   simp only [acheck] at hk
   refine wp_block (acode_wp hm hc b hk h1 st fun a' W' st' => ?_)
   cases y with
   | normal => cases h2; exact hq a' W' st'
   | ret => cases h2; exact hq a' W' st'
   | exit j =>
     simp only at h2
     simp only [AEx.exit', Exit.inBlock]
     split at h2
     ·rename_i hj
      cases h2
      rw [if_pos hj]
      exact hq a' W' st'
     ·rename_i hj
      cases h2
      rw [if_neg hj]
      exact hq a' W' st'
 | .loop b, env, A, x, env', A', a, W, Q, hk, h, st, hq => by
   simp only [acode] at h
   simp only [acheck] at hk
   exact wp_loop_rounds lf (aloop_wp (fun env t x hx => atrim_look hx) (fun h1 st1 hq1 => acode_wp hm hc b hk h1 st1 hq1) lf h st hq)
 | .exit id, env, A, x, env', A', a, W, Q, hk, h, st, hq => by
   simp only [acode] at h
   cases h
   exact wp_exit (hq a W st)
 | .ret, env, A, x, env', A', a, W, Q, hk, h, st, hq => by
   simp only [acode] at h
   cases h
   exact wp_ret (hq a W st)
 | .goto _, _, _, _, _, _, _, _, _, _, h, _, _ => by simp [acode] at h
 | .label _, _, _, _, _, _, _, _, _, _, h, _, _ => by simp [acode] at h
end
section
variable {P : Program} {W W' W0 : World} {g g' g0 : Gh} {A A' A0 : AHeap} {nt : Nat} {β : Nat → Nat} {env env' : AEnv} {a : Act} {c : ACtx} {call : FuncId → AFun} {f : FuncId}
def resM (tmps : Array Value) : ResultVar → Sem Value
 | .tmp t => Pure.pure (tmps.getD t undef)
 | .cell a t => do loadVar t (← asAddr (tmps.getD a undef))
theorem aresult_rel (s : StG W0 g0 A0 nt env A a W g β) {r : ResultVar} {x : AV} (h : aresult c env A r = some x) : ∃ v, (resM a.tmps r).run c.P W = .ok v W ∧ RelV W g A x v := by
 cases r with
 | tmp t =>
   have h' : aeval env (.tmp t) = some x := h
   exact ⟨_, rfl, aeval_rel s.e h'⟩
 | cell t T =>
   simp only [aresult] at h
   split at h
   case h_2 => cases h
   rename_i n agg hk
   split at h
   ·rename_i q off hp
    rw [Option.bind_eq_some_iff] at h
    obtain ⟨cs, hcs, h⟩ := h
    have hev := aplace_rel s.e hp
    obtain ⟨vs, T', hb, hr, _⟩ := abox_rel s.e hcs
    obtain ⟨v, hv, hrv⟩ := run_loadVar (P := c.P) hk (hr.cellsAt hb) h
    rw [Nat.zero_add] at hv
    simp only [Act.eval] at hev
    exact ⟨v, by simp only [resM, hev, asAddr, Sem.run_bind, Sem.run_pure, Result.andThen_ok, hv], hrv⟩
   ·rw [Option.bind_eq_some_iff] at h
    obtain ⟨p, hp, h⟩ := h
    obtain ⟨ad, v, hev, hv, hrv⟩ := aload_rel (P := c.P) s.w hk (aeval_rel s.e hp) h
    simp only [Act.eval] at hev
    exact ⟨v, by simp only [resM, hev, asAddr, Sem.run_bind, Sem.run_pure, Result.andThen_ok, hv], hrv⟩
theorem aresultL_rel (s : StG W0 g0 A0 nt env A a W g β) : ∀ {rs : List ResultVar} {xs : List AV}, aresultL c env A rs = some xs → ∃ vs : List Value, (rs.mapM (resM a.tmps)).run c.P W = .ok vs W ∧ RelL W g A xs vs
 | [], xs, h => by cases h; exact ⟨[], by simp, rfl, fun i x v h => by simp at h⟩
 | r :: rs, xs, h => by
   simp only [aresultL, Option.bind_eq_some_iff, Option.map_eq_some_iff] at h
   obtain ⟨x, hx, ys, hy, rfl⟩ := h
   obtain ⟨v, hv, hrv⟩ := aresult_rel s hx
   obtain ⟨vs, hvs, hrvs⟩ := aresultL_rel s hy
   refine ⟨v :: vs, ?_, by simp [hrvs.1], fun i z u h1 h2 => ?_⟩
   ·rw [List.mapM_cons]
    simp only [Sem.run_bind, hv, Result.andThen_ok, hvs, Sem.run_pure]
   ·cases i with
    | zero => simp at h1 h2; subst h1; subst h2; exact hrv
    | succ i => simp at h1 h2; exact hrvs.2 i z u h1 h2
theorem results_eq (fn : Func) (tmps : Array Value) : results fn tmps = (do
  let vs ← fn.results.mapM (resM tmps)
  Pure.pure (if h : vs.size = 1 then vs[0] else .tuple vs)) := by
 unfold results
 congr 1
theorem aresults_rel (s : StG W0 g0 A0 nt env A a W g β) {fn : Func} {x : AV} (h : aresults c env A fn.results.toList = some x) : ∃ v, (results fn a.tmps).run c.P W = .ok v W ∧ RelV W g A x v := by
 unfold aresults at h
 rw [Option.map_eq_some_iff] at h
 obtain ⟨xs, hxs, h⟩ := h
 obtain ⟨vs, hv, hr⟩ := aresultL_rel s hxs
 have hrun : (results fn a.tmps).run c.P W = .ok (if h : vs.toArray.size = 1 then vs.toArray[0] else .tuple vs.toArray) W := by
  rw [results_eq, Array.mapM_eq_mapM_toList]
  simp [hv]
 refine ⟨_, hrun, ?_⟩
 split at h
 ·rename_i y
  subst h
  match vs, hr with
  | [v], hr => simpa using hr.2 0 _ v rfl rfl
  | [], hr => have := hr.1; simp at this
  | _ :: _ :: _, hr => have := hr.1; simp at this
 ·rename_i hne
  subst h
  have hl : vs.toArray.size ≠ 1 := by
   intro h1
   have : xs.length = 1 := by rw [hr.1]; simpa using h1
   match xs, this with
   | [y], _ => exact hne y rfl
  rw [dif_neg hl]
  exact .tuple _ _ hr.1 hr.2
theorem noptr1_rel {x : AV} {v : Value} (h : RelV W g A x v) (hx : x.noptr1 = true) (hS : g'.S = g.S) : RelV W g' A' x v := by
 cases h with
 | d x v hd => exact .d _ _ (hS ▸ hd)
 | nilS => exact .nilS
 | full rows a hd => exact .full _ _ (hS ▸ hd)
 | nilP => exact .nilP
 | nilF => exact .nilF
 | nilI => exact .nilI
 | nilM => exact .nilM
 | _ => cases hx
theorem noptr2_rel {x : AV} {v : Value} (h : RelV W g A x v) (hx : x.noptr2 = true) (hS : g'.S = g.S) : RelV W g' A' x v := by
 cases h with
 | agg cs vs hl r =>
   refine .agg cs vs hl fun i y u h1 h2 => noptr1_rel (r i y u h1 h2) ?_ hS
   simp only [AV.noptr2, List.all_eq_true] at hx
   exact hx y (List.mem_of_getElem? h1)
 | d x v hd => exact noptr1_rel (A := A) (.d _ _ hd) hx hS
 | nilS => exact .nilS
 | full rows a hd => exact noptr1_rel (A := A) (.full _ _ hd) hx hS
 | nilP => exact .nilP
 | nilF => exact .nilF
 | nilI => exact .nilI
 | nilM => exact .nilM
 | own => cases hx
 | ptr => cases hx
 | sptr => cases hx
 | eptr => cases hx
 | func => cases hx
 | mapr => cases hx
 | tuple => cases hx
theorem noptr_rel {x : AV} {v : Value} (h : RelV W g A x v) (hx : x.noptr = true) (hS : g'.S = g.S) : RelV W g' A' x v := by
 cases h with
 | tuple cs vs hl r =>
   refine .tuple cs vs hl fun i y u h1 h2 => noptr2_rel (r i y u h1 h2) ?_ hS
   simp only [AV.noptr, List.all_eq_true] at hx
   exact hx y (List.mem_of_getElem? h1)
 | agg cs vs hl r => exact noptr2_rel (.agg cs vs hl r) hx hS
 | d x v hd => exact noptr1_rel (A := A) (.d _ _ hd) hx hS
 | nilS => exact .nilS
 | full rows a hd => exact noptr1_rel (A := A) (.full _ _ hd) hx hS
 | nilP => exact .nilP
 | nilF => exact .nilF
 | nilI => exact .nilI
 | nilM => exact .nilM
 | own => cases hx
 | ptr => cases hx
 | sptr => cases hx
 | eptr => cases hx
 | func => cases hx
 | mapr => cases hx
theorem relV_cut {x : AV} {v0 : Value} (h0 : RelV W0 g0 A0 x v0) (hS : g'.S = g.S) (hob : ∀ id, id < A0.objs.length → g'.ob id = g.ob id) (ho : A0.objs.length ≤ A'.objs.length)
  (hb : ∀ t, t < A0.bufs.length → t < A'.bufs.length ∧ A'.bufs[t]? = A.bufs[t]? ∧ g'.bf t = g.bf t) : ∀ {v : Value}, RelV W g A x v → RelV W g' A' x v := by
 induction h0 with
 | d x v0 hd => intro v h; exact noptr1_rel h rfl hS
 | nilS => intro v h; exact noptr1_rel h rfl hS
 | full rows a hd => intro v h; exact noptr1_rel h rfl hS
 | nilP => intro v h; exact noptr1_rel h rfl hS
 | nilF => intro v h; exact noptr1_rel h rfl hS
 | nilI => intro v h; exact noptr1_rel h rfl hS
 | nilM => intro v h; exact noptr1_rel h rfl hS
 | own tok len a cap ht _ =>
   intro v h
   cases h with
   | own _ _ a' cap' ht' hh =>
   obtain ⟨b1, b2, b3⟩ := hb tok ht
   exact .own tok len a' cap' b1 fun b hb' => by rw [b3]; exact hh b (by rw [← b2]; exact hb')
 | ptr id off hid =>
   intro v h
   cases h
   rw [← hob id hid]
   exact .ptr id off (Nat.lt_of_lt_of_le hid ho)
 | sptr ds b o val hc hv =>
   intro v h
   cases h with
   | sptr _ b' o' val' hc' hv' => exact .sptr ds b' o' val' (by rw [hS]; exact hc') (by rw [hS]; exact hv')
 | eptr tok len i off p ht _ =>
   intro v h
   cases h with
   | eptr _ _ _ _ p' ht' hh =>
   obtain ⟨b1, b2, b3⟩ := hb tok ht
   exact .eptr tok len i off p' b1 fun b hb' => by rw [b3]; exact hh b (by rw [← b2]; exact hb')
 | func fn first captured vs us h1 h2 r1 r2 ih1 ih2 =>
   intro v h
   cases h with
   | func _ _ _ vs' us' h1' h2' r1' r2' =>
   refine .func fn first captured vs' us' h1' h2' (fun i x v e1 e2 => ?_) (fun i x v e1 e2 => ?_)
   ·have hl : i < vs.length := h1 ▸ lt_of_get e1
    exact ih1 i x _ e1 (List.getElem?_eq_getElem hl) (r1' i x v e1 e2)
   ·have hl : i < us.length := h2 ▸ lt_of_get e1
    exact ih2 i x _ e1 (List.getElem?_eq_getElem hl) (r2' i x v e1 e2)
 | mapr id hid =>
   intro v h
   cases h
   rw [← hob id hid]
   exact .mapr id (Nat.lt_of_lt_of_le hid ho)
 | agg cs vs hl r ih =>
   intro v h
   cases h with
   | agg _ vs' hl' r' =>
   refine .agg cs vs' hl' fun i x v e1 e2 => ?_
   have hlt : i < vs.length := hl ▸ lt_of_get e1
   exact ih i x _ e1 (List.getElem?_eq_getElem hlt) (r' i x v e1 e2)
 | tuple cs vs hl r ih =>
   intro v h
   cases h with
   | tuple _ vs' hl' r' =>
   refine .tuple cs vs' hl' fun i x v e1 e2 => ?_
   have hlt : i < vs.length := hl ▸ lt_of_get e1
   exact ih i x _ e1 (List.getElem?_eq_getElem hlt) (r' i x v e1 e2)
def Gh.cut (g : Gh) (n m : Nat) (tk : Option Nat) : Gh where
 S := g.S
 ob := g.ob
 bf t := if t = m then (match tk with | some k => g.bf k | none => g.bf t) else g.bf t
 own b := match g.own b with
  | some (.obj id) => if id < n then some (.obj id) else none
  | some (.buf t) => if t < m then some (.buf t) else if tk = some t then some (.buf m) else none
  | none => none
theorem cut_rel (hw0 : WRel W0 g0 A0) (hw : WRel W g A) (e : Ev W0 g0 A0 W g A) (hobj : A.objs.take A0.objs.length = A0.objs) (tk : Option Nat) (bs : List ABuf) (hlen : A0.bufs.length ≤ bs.length) (hbs : ∀ t, t < A0.bufs.length → bs[t]? = A.bufs[t]?)
  (hnew : ∀ t b, A0.bufs.length ≤ t → bs[t]? = some b → t = A0.bufs.length ∧ ∃ k, tk = some k ∧ A0.bufs.length ≤ k ∧ A.bufs[k]? = some b) :
  WRel W (g.cut A0.objs.length A0.bufs.length tk) ⟨A0.objs, bs⟩ ∧ Ev W0 g0 A0 W (g.cut A0.objs.length A0.bufs.length tk) ⟨A0.objs, bs⟩ := by
 have hbf : ∀ t, t < A0.bufs.length → (g.cut A0.objs.length A0.bufs.length tk).bf t = g.bf t := fun t ht => by simp [Gh.cut]; omega
 have hcut : ∀ {x : AV} {v0 v : Value}, RelV W0 g0 A0 x v0 → RelV W g A x v → RelV W (g.cut A0.objs.length A0.bufs.length tk) ⟨A0.objs, bs⟩ x v := fun h0 h =>
  relV_cut (g := g) (g' := g.cut A0.objs.length A0.bufs.length tk) (A := A) (A' := ⟨A0.objs, bs⟩) h0 rfl (fun _ _ => rfl) (Nat.le_refl _) (fun t ht => ⟨Nat.lt_of_lt_of_le ht hlen, hbs t ht, hbf t ht⟩) h
 have hown : ∀ blk o, (g.cut A0.objs.length A0.bufs.length tk).own blk = some o → ∃ o', g.own blk = some o' ∧ ∀ id, o = .obj id → o' = .obj id := by
  intro blk o h
  simp only [Gh.cut] at h
  split at h
  ·rename_i id hid
   split at h
   ·cases h; exact ⟨_, hid, fun id' h => by cases h; rfl⟩
   ·cases h
  ·rename_i t ht
   split at h
   ·cases h; exact ⟨_, ht, fun id' h => by cases h⟩
   ·split at h
    ·cases h; exact ⟨_, ht, fun id' h => by cases h⟩
    ·cases h
  ·cases h
 have hobjs : ∀ (i : Nat) (o : AObj), A0.objs[i]? = some o → A.objs[i]? = some o := by
  intro i o h
  rw [← hobj, List.getElem?_take] at h
  split at h
  ·exact h
  ·cases h
 refine ⟨⟨fun i o ho => ?_, fun t b hb => ?_, fun blk o ho => ?_, fun b o hs => hw.stab b o hs, fun blk i o ho hs => ?_⟩, ⟨⟨e.size, e.stab, e.ob, Nat.le_refl _, fun t b hb => ?_, e.rest⟩, fun b hb ho => ?_⟩⟩
 ·obtain ⟨o1, o2⟩ := hw0.obj i o ho
  obtain ⟨k1, k2⟩ := hw.obj i o (hobjs i o ho)
  refine ⟨by simp [Gh.cut, k1, lt_of_get ho], ?_⟩
  cases o with
  | cells cs =>
    obtain ⟨vs0, T0, _, r0⟩ := o2
    obtain ⟨vs, T, hb, r⟩ := k2
    refine ⟨vs, T, hb, r.1, fun j x v e1 e2 => ?_⟩
    have hlt : j < vs0.toList.length := r0.1 ▸ lt_of_get e1
    exact hcut (r0.2 j x _ e1 (List.getElem?_eq_getElem hlt)) (r.2 j x v e1 e2)
  | tcells T cs =>
    obtain ⟨vs0, _, r0⟩ := o2
    obtain ⟨vs, hb, r⟩ := k2
    refine ⟨vs, hb, r.1, fun j x v e1 e2 => ?_⟩
    have hlt : j < vs0.toList.length := r0.1 ▸ lt_of_get e1
    exact hcut (r0.2 j x _ e1 (List.getElem?_eq_getElem hlt)) (r.2 j x v e1 e2)
  | map es =>
    obtain ⟨ms0, c0, _, z0, r0⟩ := o2
    obtain ⟨ms, cl, hb, z, r⟩ := k2
    refine ⟨ms, cl, hb, z, fun j k x m e1 e2 => ?_⟩
    have hlt : j < ms0.size := by rw [z0]; exact lt_of_get e1
    obtain ⟨q1, q2⟩ := r j k x m e1 e2
    exact ⟨q1, hcut (r0 j k x _ e1 (Array.getElem?_eq_getElem hlt)).2 q2⟩
  | iter s pos => exact k2
 ·rcases Nat.lt_or_ge t A0.bufs.length with ht | ht
  ·simp only at hb
   rw [hbs t ht] at hb
   rcases (hw.buf t b hb).ex' with ⟨_, blk, cap, vs, h1, h2, h3⟩ | ⟨hd, blk, cap, h1, h2⟩
   ·exact .of ⟨blk, cap, vs, by rw [hbf t ht]; exact h1, by simp [Gh.cut, h2, ht], h3⟩
   ·exact ⟨.inr ⟨hd, blk, cap, by rw [hbf t ht]; exact h1, by simp [Gh.cut, h2, ht]⟩⟩
  ·obtain ⟨rfl, k, hk, hkm, hkb⟩ := hnew t b ht hb
   have hlt : ¬ k < A0.bufs.length := by omega
   rcases (hw.buf k b hkb).ex' with ⟨_, blk, cap, vs, h1, h2, h3⟩ | ⟨hd, blk, cap, h1, h2⟩
   ·exact .of ⟨blk, cap, vs, by simp [Gh.cut, hk, h1], by simp [Gh.cut, h2, hlt, hk], h3⟩
   ·exact ⟨.inr ⟨hd, blk, cap, by simp [Gh.cut, hk, h1], by simp [Gh.cut, h2, hlt, hk]⟩⟩
 ·obtain ⟨o', h1, _⟩ := hown blk o ho
  exact hw.lt _ _ h1
 ·obtain ⟨o', h1, h2⟩ := hown blk _ ho
  rw [h2 i rfl] at h1
  exact hw.sobj _ _ _ h1 hs
 ·have ht := lt_of_get hb
  obtain ⟨b', h1, h2, h3, h4⟩ := e.bufs t b hb
  exact ⟨b', by rw [hbs t ht]; exact h1, h2, h3, fun h => by rw [hbf t ht]; exact h4 h⟩
 ·obtain ⟨h1, h2, h3⟩ := e.free b hb ho
  exact ⟨h1, by simp [Gh.cut, h2], h3⟩
theorem relV_under {n m : Nat} {x : AV} (hx : x.under n m = true) (hS : g'.S = g.S) (hob : ∀ id, id < n → g'.ob id = g.ob id) (ho : n ≤ A'.objs.length)
  (hb : ∀ t, t < m → t < A'.bufs.length ∧ A'.bufs[t]? = A.bufs[t]? ∧ g'.bf t = g.bf t) {v : Value} (h : RelV W g A x v) : RelV W g' A' x v := by
 cases x with
 | own tok len =>
   simp only [AV.under, Nat.blt_eq] at hx
   cases h with
   | own _ _ a' cap' ht' hh =>
   obtain ⟨b1, b2, b3⟩ := hb tok hx
   exact .own tok len a' cap' b1 fun b hb' => by rw [b3]; exact hh b (by rw [← b2]; exact hb')
 | ptr id off =>
   simp only [AV.under, Nat.blt_eq] at hx
   cases h
   rw [← hob id hx]
   exact .ptr id off (Nat.lt_of_lt_of_le hx ho)
 | mapr id =>
   simp only [AV.under, Nat.blt_eq] at hx
   cases h
   rw [← hob id hx]
   exact .mapr id (Nat.lt_of_lt_of_le hx ho)
 | _ => exact noptr2_rel h (by simpa only [AV.under] using hx) hS
theorem cut2_rel (hw0 : WRel W0 g0 A0) (hw : WRel W g A) (e : Ev W0 g0 A0 W g A) (hn : A0.objs.length ≤ A.objs.length) (hu : (A.objs.take A0.objs.length).all (AObj.under A0.objs.length A0.bufs.length) = true) :
  WRel W (g.cut A0.objs.length A0.bufs.length none) ⟨A.objs.take A0.objs.length, A.bufs.take A0.bufs.length⟩ ∧ Ev W0 g0 A0 W (g.cut A0.objs.length A0.bufs.length none) ⟨A.objs.take A0.objs.length, A.bufs.take A0.bufs.length⟩ := by
 have hm : A0.bufs.length ≤ A.bufs.length := by
  rcases Nat.lt_or_ge A.bufs.length A0.bufs.length with h | h
  ·have := e.lenBufs (tok := A.bufs.length) h
   omega
  ·exact h
 have hbf : ∀ t, t < A0.bufs.length → (g.cut A0.objs.length A0.bufs.length none).bf t = g.bf t := fun t ht => by simp [Gh.cut]
 have take : ∀ t, t < A0.bufs.length → (A.bufs.take A0.bufs.length)[t]? = A.bufs[t]? := fun t ht => by rw [List.getElem?_take, if_pos ht]
 have hcut : ∀ {x : AV} {v : Value}, x.under A0.objs.length A0.bufs.length = true → RelV W g A x v → RelV W (g.cut A0.objs.length A0.bufs.length none) ⟨A.objs.take A0.objs.length, A.bufs.take A0.bufs.length⟩ x v := fun h0 h =>
  relV_under (g := g) (g' := g.cut A0.objs.length A0.bufs.length none) (A := A) (A' := ⟨A.objs.take A0.objs.length, A.bufs.take A0.bufs.length⟩) h0 rfl (fun _ _ => rfl) (by simp; omega) (fun t ht => ⟨by simp; omega, take t ht, hbf t ht⟩) h
 have hown : ∀ blk o, (g.cut A0.objs.length A0.bufs.length none).own blk = some o → g.own blk = some o := by
  intro blk o h
  simp only [Gh.cut] at h
  split at h
  ·rename_i id hid
   split at h
   ·cases h; exact hid
   ·cases h
  ·rename_i t ht
   split at h
   ·cases h; exact ht
   ·split at h
    ·rename_i h2; cases h2
    ·cases h
  ·cases h
 have hobjs : ∀ (i : Nat) (o : AObj), (A.objs.take A0.objs.length)[i]? = some o → A.objs[i]? = some o ∧ i < A0.objs.length ∧ o.under A0.objs.length A0.bufs.length = true := by
  intro i o h
  have hmem := List.mem_of_getElem? h
  have hu' := List.all_eq_true.1 hu o hmem
  rw [List.getElem?_take] at h
  split at h
  ·rename_i hlt; exact ⟨h, hlt, hu'⟩
  ·cases h
 refine ⟨⟨fun i o ho => ?_, fun t b hb => ?_, fun blk o ho => hw.lt _ _ (hown blk o ho), fun b o hs => hw.stab b o hs, fun blk i o ho hs => hw.sobj _ _ _ (hown blk _ ho) hs⟩, ⟨⟨e.size, e.stab, e.ob, by simp; omega, fun t b hb => ?_, e.rest⟩, fun b hb ho => ?_⟩⟩
 ·obtain ⟨ho', hi, hu'⟩ := hobjs i o ho
  obtain ⟨k1, k2⟩ := hw.obj i o ho'
  refine ⟨by simp [Gh.cut, k1, hi], ?_⟩
  cases o with
  | cells cs =>
    obtain ⟨vs, T, hb, r⟩ := k2
    exact ⟨vs, T, hb, r.1, fun j x v e1 e2 => hcut (List.all_eq_true.1 hu' x (List.mem_of_getElem? e1)) (r.2 j x v e1 e2)⟩
  | tcells T cs =>
    obtain ⟨vs, hb, r⟩ := k2
    exact ⟨vs, hb, r.1, fun j x v e1 e2 => hcut (List.all_eq_true.1 hu' x (List.mem_of_getElem? e1)) (r.2 j x v e1 e2)⟩
  | map es =>
    obtain ⟨ms, cl, hb, z, r⟩ := k2
    exact ⟨ms, cl, hb, z, fun j k x m e1 e2 => ⟨(r j k x m e1 e2).1, hcut (List.all_eq_true.1 hu' (k, x) (List.mem_of_getElem? e1)) (r j k x m e1 e2).2⟩⟩
  | iter s pos => exact k2
 ·have ht : t < A0.bufs.length := by
   have := lt_of_get hb
   simp at this
   omega
  simp only at hb
  rw [take t ht] at hb
  rcases (hw.buf t b hb).ex' with ⟨_, blk, cap, vs, h1, h2, h3⟩ | ⟨hd, blk, cap, h1, h2⟩
  ·exact .of ⟨blk, cap, vs, by rw [hbf t ht]; exact h1, by simp [Gh.cut, h2, ht], h3⟩
  ·exact ⟨.inr ⟨hd, blk, cap, by rw [hbf t ht]; exact h1, by simp [Gh.cut, h2, ht]⟩⟩
 ·have ht := lt_of_get hb
  obtain ⟨b', h1, h2, h3, h4⟩ := e.bufs t b hb
  exact ⟨b', by rw [← h1]; exact take t ht, h2, h3, fun h => by rw [hbf t ht]; exact h4 h⟩
 ·obtain ⟨h1, h2, h3⟩ := e.free b hb ho
  exact ⟨h1, by simp [Gh.cut, h2], h3⟩
theorem acut_rel (hw0 : WRel W0 g0 A0) (hw : WRel W g A) (e : Ev W0 g0 A0 W g A) {x : AV} {v : Value} (r : RelV W g A x v) :
  ∃ g', RelV W g' (acut A0 x A).2 (acut A0 x A).1 v ∧ WRel W g' (acut A0 x A).2 ∧ Ev W0 g0 A0 W g' (acut A0 x A).2 := by
 have hm : A0.bufs.length ≤ A.bufs.length := by
  rcases Nat.lt_or_ge A.bufs.length A0.bufs.length with h | h
  ·have := e.lenBufs (tok := A.bufs.length) h
   omega
  ·exact h
 have take : ∀ t, t < A0.bufs.length → (A.bufs.take A0.bufs.length)[t]? = A.bufs[t]? := fun t ht => by rw [List.getElem?_take, if_pos ht]
 have tlen : (A.bufs.take A0.bufs.length).length = A0.bufs.length := by simp [hm]
 unfold acut
 split
 ·rename_i hobj
  have plain := cut_rel hw0 hw e hobj none (A.bufs.take A0.bufs.length) (by omega) take (fun t b ht hb => by rw [List.getElem?_eq_none (by omega)] at hb; cases hb)
  split
  ·rename_i hnp
   exact ⟨g.cut A0.objs.length A0.bufs.length none, noptr_rel r hnp rfl, plain.1, plain.2⟩
  ·split
   ·rename_i tok len hnp
    split
    ·rename_i ht
     refine ⟨g.cut A0.objs.length A0.bufs.length none, ?_, plain.1, plain.2⟩
     cases r with
     | own _ _ a cap ht' hh =>
     refine .own tok len a cap (by simp; omega) fun b hb => ?_
     simp only at hb
     rw [take tok ht] at hb
     obtain ⟨h1, h2⟩ := hh b hb
     refine ⟨h1, fun h => ?_⟩
     have : ¬ tok = A0.bufs.length := by omega
     simp only [Gh.cut, this, if_false]
     exact h2 h
    ·rename_i ht
     split
     ·rename_i b hb
      have k := cut_rel hw0 hw e hobj (some tok) (A.bufs.take A0.bufs.length ++ [b]) (by simp; omega) (fun t ht' => by rw [List.getElem?_append_left (by omega)]; exact take t ht') (fun t b' ht' hb' => by
       rw [List.getElem?_append_right (by omega), tlen] at hb'
       have h1 := lt_of_get hb'
       simp at h1
       have : t = A0.bufs.length := by omega
       subst this
       simp at hb'
       subst hb'
       exact ⟨rfl, tok, rfl, by omega, hb⟩)
      refine ⟨g.cut A0.objs.length A0.bufs.length (some tok), ?_, k.1, k.2⟩
      cases r with
      | own _ _ a cap ht' hh =>
      refine .own A0.bufs.length len a cap (by simp; omega) fun b' hb' => ?_
      simp only at hb'
      rw [List.getElem?_append_right (by omega), tlen] at hb'
      simp at hb'
      subst hb'
      obtain ⟨h1, h2⟩ := hh b hb
      refine ⟨h1, fun h => ?_⟩
      simp only [Gh.cut, if_true]
      exact h2 h
     ·exact ⟨g, r, hw, e⟩
   ·exact ⟨g, r, hw, e⟩
 ·exact ⟨g, r, hw, e⟩
theorem acutO_rel (hw0 : WRel W0 g0 A0) (hw : WRel W g A) (e : Ev W0 g0 A0 W g A) {x : AV} {v : Value} (r : RelV W g A x v) :
  ∃ g', RelV W g' (acutO A0 x A).2 (acutO A0 x A).1 v ∧ WRel W g' (acutO A0 x A).2 ∧ Ev W0 g0 A0 W g' (acutO A0 x A).2 := by
 unfold acutO
 split
 ·exact acut_rel hw0 hw e r
 ·split
  ·rename_i hnp
   have hn : A0.objs.length ≤ A.objs.length := e.objs
   have k := cut2_rel hw0 hw e hn hnp.2
   exact ⟨g.cut A0.objs.length A0.bufs.length none, noptr_rel r hnp.1 rfl, k.1, k.2⟩
  ·exact ⟨g, r, hw, e⟩
theorem afinish_rel (hw0 : WRel W0 g0 A0) (hw : WRel W g A) (e : Ev W0 g0 A0 W g A) {x : AV} {v : Value} (r : RelV W g A x v) :
  ∃ g', RelV W g' (afinish c f A0 x A).2 (afinish c f A0 x A).1 v ∧ WRel W g' (afinish c f A0 x A).2 ∧ Ev W0 g0 A0 W g' (afinish c f A0 x A).2 := by
 unfold afinish
 split
 ·exact acutO_rel hw0 hw e r
 ·obtain ⟨g1, r1, w1, e1⟩ := acleanR_rel hw r
  exact acut_rel hw0 w1 (e.trans e1) r1
theorem aenter_look : ∀ (k : Nat) (xs : List AV) (t : Nat) (s : Slot), alook (aenter k xs) t = some s → ∃ x, xs[t - k]? = some x ∧ k ≤ t ∧ s = .v x
 | k, [], t, s, h => by cases h
 | k, y :: ys, t, s, h => by
   simp only [aenter, alook] at h
   split at h
   ·rename_i ht
    subst ht
    cases h
    exact ⟨y, by simp, Nat.le_refl _, rfl⟩
   ·obtain ⟨x, h1, h2, h3⟩ := aenter_look (k + 1) ys t s h
    refine ⟨x, ?_, by omega, h3⟩
    have : t - k = (t - (k + 1)) + 1 := by omega
    rw [this, List.getElem?_cons_succ]
    exact h1
def CallOk1 (P : Program) (f : FuncId) (h : AFun) : Prop :=
 ∀ (xs : List AV) (A : AHeap) (x : AV) (A' : AHeap), h xs A = some (x, A') →
   (∃ fn, P.funcs[f]? = some fn ∧ (fn.name == "runtime.NumGoroutine") = false ∧ fn.body.isNone = false) ∧
   ∀ (W : World) (g : Gh) (vs : List Value), WRel W g A → RelL W g A xs vs → Calls P f vs.toArray W (CallPost W g A x A')
def EvClosed (I : World → Gh → Prop) : Prop := ∀ (W : World) (g : Gh) (A : AHeap) (W' : World) (g' : Gh) (A' : AHeap), I W g → Ev W g A W' g' A' → I W' g'
def CallOk1I (P : Program) (I : World → Gh → Prop) (f : FuncId) (h : AFun) : Prop :=
 ∀ (xs : List AV) (A : AHeap) (x : AV) (A' : AHeap), h xs A = some (x, A') →
   (∃ fn, P.funcs[f]? = some fn ∧ (fn.name == "runtime.NumGoroutine") = false ∧ fn.body.isNone = false) ∧
   ∀ (W : World) (g : Gh) (vs : List Value), I W g → WRel W g A → RelL W g A xs vs → Calls P f vs.toArray W (CallPost W g A x A')
def CallOkI (P : Program) (I : World → Gh → Prop) (call : FuncId → AFun) : Prop := ∀ f, CallOk1I P I f (call f)
theorem callAt_of {I : World → Gh → Prop} {P : Program} {call : FuncId → AFun} (hI : EvClosed I) (hc : CallOkI P I call) {W : World} {g : Gh} (hi : I W g) : CallAt W g P call := by
 intro f xs A x A' h
 obtain ⟨h1, h2⟩ := hc f xs A x A' h
 exact ⟨h1, fun W' g' vs ⟨B, C, e⟩ hw hr => h2 W' g' vs (hI _ _ _ _ _ _ hi e) hw hr⟩
theorem CallOk1.I {I : World → Gh → Prop} {P : Program} {f : FuncId} {h : AFun} (k : CallOk1 P f h) : CallOk1I P I f h := by
 intro xs A x A' hx
 obtain ⟨h1, h2⟩ := k xs A x A' hx
 exact ⟨h1, fun W g vs _ hw hr => h2 W g vs hw hr⟩
theorem abody_ok {I : World → Gh → Prop} (hI : EvClosed I) (hm : c.P.follows .mixedOrders = true) (hext : ∀ f h, c.ext f = some h → CallOk1I c.P I f h) (hc : CallOkI c.P I call) (lf : Nat) : CallOkI c.P I (abody c call lf) := by
 intro f xs A x A' h
 unfold abody at h
 split at h
 ·rename_i k hk
  exact hext f k hk xs A x A' h
 ·split at h
  ·cases h
  rename_i fn hfn
  split at h
  ·cases h
  rename_i code hcode
  split at h
  case isFalse => cases h
  rename_i hcond
  obtain ⟨hok, hnargs⟩ := hcond
  have facts : (∃ fn, c.P.funcs[f]? = some fn ∧ (fn.name == "runtime.NumGoroutine") = false ∧ fn.body.isNone = false) ∧ acheck code = true := by
   unfold fnOk at hok
   rw [hfn] at hok
   simp only [hcode, Bool.and_eq_true] at hok
   refine ⟨⟨fn, hfn, ?_, by rw [hcode]; rfl⟩, hok.2⟩
   have := hok.1
   simp only [bne_iff_ne, ne_eq] at this
   simpa using this
  refine ⟨facts.1, fun W g vs hi hw hr => ?_⟩
  simp only [Option.bind_eq_some_iff] at h
  obtain ⟨⟨ex, env', A2⟩, hrun, hfin⟩ := h
  -- the arguments
  have enter : ∃ g1, RelL W g1 (if c.own f then (xs, A) else acleanVs A xs).2 (if c.own f then (xs, A) else acleanVs A xs).1 vs ∧ WRel W g1 (if c.own f then (xs, A) else acleanVs A xs).2 ∧ Ev W g A W g1 (if c.own f then (xs, A) else acleanVs A xs).2 ∧
    (if c.own f then (xs, A) else acleanVs A xs).1.length ≤ fn.ntmps := by
   split
   ·exact ⟨g, hr, hw, .refl _ _ _, hnargs⟩
   ·obtain ⟨g1, r1, w1, e1⟩ := acleanVs_rel hw hr
    refine ⟨g1, r1, w1, e1, ?_⟩
    have h1 := r1.1
    have h2 := hr.1
    omega
  obtain ⟨g1, r1, w1, e1, hl1⟩ := enter
  generalize hargs : (if c.own f then (xs, A) else acleanVs A xs) = args at *
  obtain ⟨xs1, A1⟩ := args
  simp only at r1 w1 e1 hl1 hrun
  have hvl : vs.length ≤ fn.ntmps := by rw [← r1.1]; exact hl1
  refine calls_of_wp hfn hcode ?_
  have st0 : StG W g A fn.ntmps (aenter 0 xs1) A1 { tmps := vs.toArray ++ Array.replicate (fn.ntmps - vs.toArray.size) undef, defers := [] } W g1 (fun _ => 0) := by
   refine ⟨w1, ⟨by simp; omega, fun t s hs => ?_, fun p q c1 c2 h1 => ?_, fun t cs h1 => ?_⟩, e1, rfl⟩
   ·obtain ⟨y, h1, _, rfl⟩ := aenter_look 0 xs1 t s hs
    rw [Nat.sub_zero] at h1
    have hlt : t < vs.length := r1.1 ▸ lt_of_get h1
    refine .v y vs[t] ?_ (r1.2 t y _ h1 (List.getElem?_eq_getElem hlt))
    simp only
    rw [Array.getElem?_append_left (by simpa using hlt), List.getElem?_toArray]
    exact List.getElem?_eq_getElem hlt
   ·obtain ⟨y, _, _, h2⟩ := aenter_look 0 xs1 p _ h1
    cases h2
   ·obtain ⟨y, _, _, h2⟩ := aenter_look 0 xs1 t _ h1
    cases h2
  refine acode_wp hm (callAt_of hI hc hi) code facts.2 hrun ⟨g1, _, st0⟩ fun a' W' st' => ?_
  obtain ⟨g2, β2, s2⟩ := st'
  have done : (aresults c env' A2 fn.results.toList).map (fun v => afinish c f A v A2) = some (x, A') →
    a'.defers = [] ∧ ∃ v, (results fn a'.tmps).run c.P W' = .ok v W' ∧ CallPost W g A x A' (.returned v) W' := by
   intro h
   rw [Option.map_eq_some_iff] at h
   obtain ⟨y, hy, h⟩ := h
   obtain ⟨v, hv, hrv⟩ := aresults_rel s2 hy
   obtain ⟨g3, r3, w3, e3⟩ := afinish_rel (c := c) (f := f) hw s2.w s2.ev hrv
   rw [h] at r3 w3 e3
   exact ⟨s2.df, v, hv, v, g3, rfl, r3, w3, e3⟩
  cases ex with
  | exit id => cases hfin
  | normal => exact done hfin
  | ret => exact done hfin
theorem aclF_ok {I : World → Gh → Prop} (hI : EvClosed I) (hm : c.P.follows .mixedOrders = true) (hext : ∀ f h, c.ext f = some h → CallOk1I c.P I f h) : ∀ n, CallOkI c.P I (aclF c n)
 | 0 => fun f xs A x A' h => by cases h
 | n + 1 => abody_ok hI hm hext (aclF_ok hI hm hext n) n
theorem acl_okI {I : World → Gh → Prop} (hI : EvClosed I) (hm : c.P.follows .mixedOrders = true) (hext : ∀ f h, c.ext f = some h → CallOk1I c.P I f h) : CallOkI c.P I (acl c) := by
 intro f xs A x A' h
 obtain ⟨n, hn⟩ := acl_some.1 h
 exact aclF_ok hI hm hext n f xs A x A' hn
theorem acl_ok (hm : c.P.follows .mixedOrders = true) (hext : ∀ f h, c.ext f = some h → CallOk1 c.P f h) : CallOk c.P (acl c) := by
 intro f xs A x A' h
 obtain ⟨h1, h2⟩ := acl_okI (I := fun _ _ => True) (fun _ _ _ _ _ _ _ _ => trivial) hm (fun f h hf => (hext f h hf).I) f xs A x A' h
 exact ⟨h1, fun W g vs hw hr => h2 W g vs trivial hw hr⟩
end
open RowKit
section
variable {c : ACtx} {f : FuncId} {W W' : World}
def gh0 (W : World) : Gh := ⟨fun b _ => b < W.heap.size, fun _ => 0, fun _ => undef, fun _ => none⟩
def A00 : AHeap := ⟨[], []⟩
theorem wrel0 (W : World) : WRel W (gh0 W) A00 :=
 ⟨fun id o h => (by simp [A00] at h), fun t b h => (by simp [A00] at h), fun b o h => (by cases h), fun b o h => h, fun b i o h => (by cases h)⟩
def Grown (W W' : World) : Prop := W.keptBut W' (fun _ => False) ∧ (∀ a, a.block < W.heap.size → W'.frozen? a = W.frozen? a) ∧ W.heap.size ≤ W'.heap.size
theorem grown_of_ev {g' : Gh} {A' : AHeap} (e : Ev W (gh0 W) A00 W' g' A') : Grown W W' := by
 refine ⟨⟨e.rest.os, e.rest.out, fun i hi => ?_⟩, fun a ha => World.frozen?_of_block (e.free a.block ha rfl).1, e.size⟩
 have h := (e.free i hi rfl).1
 rw [h]
 cases W.heap[i]? with
 | none => rfl
 | some o => cases o with
   | cells c t fz => exact ⟨rfl, rfl, rfl, fun _ _ => rfl⟩
   | map es k => exact .inr ⟨rfl, rfl⟩
   | _ => rfl
def Stands (W W' : World) : Prop := ∀ b, b < W.heap.size → W'.heap[b]? = W.heap[b]?
theorem call_lawI {I : World → Gh → Prop} (hI : EvClosed I) (hm : c.P.follows .mixedOrders = true) (hext : ∀ f h, c.ext f = some h → CallOk1I c.P I f h) {xs : List AV} {b : Bool} {A' : AHeap} (h : acl c f xs A00 = some (.d (.bool b), A')) {vs : List Value} (hi : I W (gh0 W)) (hr : RelL W (gh0 W) A00 xs vs) :
  Calls c.P f vs.toArray W fun e W' => e = .returned (.bool b) ∧ Grown W W' ∧ Stands W W' :=
 ((acl_okI hI hm hext f xs A00 _ A' h).2 W (gh0 W) vs hi (wrel0 W) hr).mono fun _ _ ⟨v, g', h1, h2, _, h4⟩ => ⟨by rw [h1, h2.dBool], grown_of_ev h4, fun b hb => (h4.free b hb rfl).1⟩
def VarI (P : Program) (name : String) (cs : Array Value) (W : World) (g : Gh) : Prop := W.var? P name = some cs ∧ ∀ k, P.globalNamed name = some k → g.own k = none
theorem varI_closed (P : Program) (name : String) (cs : Array Value) : EvClosed (VarI P name cs) := by
 intro W g A W' g' A' ⟨h1, h2⟩ e
 unfold VarI
 unfold World.var? at *
 cases hg : P.globalNamed name with
 | none => simp [hg] at h1
 | some k =>
   simp only [hg, Option.bind_some] at h1 ⊢
   have hlt : k < W.heap.size := by
    rcases Nat.lt_or_ge k W.heap.size with h' | h'
    ·exact h'
    ·rw [Array.getElem?_eq_none h'] at h1; simp at h1
   obtain ⟨e1, e2, _⟩ := e.free k hlt (h2 k hg)
   rw [e1]
   refine ⟨h1, fun k' hk' => ?_⟩
   cases hk'
   exact e2
theorem varI_top {P : Program} {name : String} {cs : Array Value} {W : World} (h : W.var? P name = some cs) : VarI P name cs W (gh0 W) := ⟨h, fun _ _ => rfl⟩
end
end Go.Abs
namespace Go.Abs
def beqL {α : Type} (f : α → α → Bool) : List α → List α → Bool
 | [], [] => true
 | x :: xs, y :: ys => f x y && beqL f xs ys
 | _, _ => false
theorem beqL_eq {α : Type} {f : α → α → Bool} (h : ∀ x y, f x y = true → x = y) : ∀ {xs ys : List α}, beqL f xs ys = true → xs = ys
 | [], [], _ => rfl
 | x :: xs, y :: ys, e => by
   simp only [beqL, Bool.and_eq_true] at e
   rw [h x y e.1, beqL_eq h e.2]
 | [], _ :: _, e => by cases e
 | _ :: _, [], e => by cases e
def beqD : Nat → Dat → Dat → Bool
 | 0, _, _ => false
 | _ + 1, .bool a, .bool b => a == b
 | _ + 1, .int k a, .int k' b => decide (k = k') && a == b
 | _ + 1, .str a, .str b => a == b
 | _ + 1, .nil, .nil => true
 | n + 1, .slice a, .slice b => beqL (beqL (beqD n)) a b
 | _, _, _ => false
theorem beqD_eq : ∀ (n : Nat) (x y : Dat), beqD n x y = true → x = y
 | 0, _, _, e => by simp [beqD] at e
 | n + 1, x, y, e => by
   unfold beqD at e
   split at e <;> rename_i h
   ·cases h
   ·simp at e; subst e; rfl
   ·simp at e; obtain ⟨rfl, rfl⟩ := e; rfl
   ·simp at e; subst e; rfl
   ·rfl
   ·rename_i m a b
    cases h
    rw [beqL_eq (fun x y => beqL_eq (beqD_eq n)) e]
   ·cases e
def beqV : Nat → AV → AV → Bool
 | 0, _, _ => false
 | n + 1, .d a, .d b => beqD n a b
 | _ + 1, .nilS, .nilS => true
 | n + 1, .full a, .full b => beqL (beqL (beqD n)) a b
 | _ + 1, .own a b, .own a' b' => a == a' && b == b'
 | _ + 1, .nilP, .nilP => true
 | _ + 1, .ptr a b, .ptr a' b' => a == a' && b == b'
 | n + 1, .sptr a, .sptr b => beqL (beqD n) a b
 | _ + 1, .eptr a b p q, .eptr a' b' p' q' => a == a' && b == b' && p == p' && q == q'
 | _ + 1, .nilF, .nilF => true
 | _ + 1, .nilI, .nilI => true
 | _ + 1, .nilM, .nilM => true
 | n + 1, .func (.func f) a b, .func (.func f') a' b' => f == f' && beqL (beqV n) a a' && beqL (beqV n) b b'
 | _ + 1, .mapr a, .mapr b => a == b
 | n + 1, .agg a, .agg b => beqL (beqV n) a b
 | n + 1, .tuple a, .tuple b => beqL (beqV n) a b
 | _, _, _ => false
theorem beqV_eq : ∀ (n : Nat) (x y : AV), beqV n x y = true → x = y
 | 0, _, _, e => by simp [beqV] at e
 | n + 1, x, y, e => by
   unfold beqV at e
   split at e <;> rename_i h
   ·cases h
   ·cases h; rw [beqD_eq n _ _ e]
   ·rfl
   ·cases h; rw [beqL_eq (fun x y => beqL_eq (beqD_eq n)) e]
   ·simp at e; obtain ⟨rfl, rfl⟩ := e; rfl
   ·rfl
   ·simp at e; obtain ⟨rfl, rfl⟩ := e; rfl
   ·cases h; rw [beqL_eq (beqD_eq n) e]
   ·simp at e; obtain ⟨⟨⟨rfl, rfl⟩, rfl⟩, rfl⟩ := e; rfl
   ·rfl
   ·rfl
   ·rfl
   ·cases h
    simp only [Bool.and_eq_true, beq_iff_eq] at e
    obtain ⟨⟨rfl, e1⟩, e2⟩ := e
    rw [beqL_eq (beqV_eq n) e1, beqL_eq (beqV_eq n) e2]
   ·simp at e; subst e; rfl
   ·cases h; rw [beqL_eq (beqV_eq n) e]
   ·cases h; rw [beqL_eq (beqV_eq n) e]
   ·cases e
def neL {α : Type} (f : α → α → Bool) : List α → List α → Bool
 | [], [] => false
 | x :: xs, y :: ys => f x y || neL f xs ys
 | _, _ => true
theorem neL_ne {α : Type} {f : α → α → Bool} (h : ∀ x y, f x y = true → x ≠ y) : ∀ {xs ys : List α}, neL f xs ys = true → xs ≠ ys
 | [], [], e => by cases e
 | x :: xs, y :: ys, e => by
   simp only [neL, Bool.or_eq_true] at e
   intro he
   cases he
   rcases e with e | e
   ·exact h _ _ e rfl
   ·exact neL_ne h e rfl
 | [], _ :: _, _ => by intro h; cases h
 | _ :: _, [], _ => by intro h; cases h
def Dat.tag : Dat → Nat
 | .bool _ => 0
 | .int _ _ => 1
 | .str _ => 2
 | .slice _ => 3
 | .nil => 4
def neD : Nat → Dat → Dat → Bool
 | 0, _, _ => false
 | _ + 1, .bool a, .bool b => a != b
 | _ + 1, .int k a, .int k' b => !(decide (k = k')) || a != b
 | _ + 1, .str a, .str b => a != b
 | n + 1, .slice a, .slice b => neL (neL (neD n)) a b
 | _ + 1, x, y => x.tag != y.tag
theorem neD_ne : ∀ (n : Nat) (x y : Dat), neD n x y = true → x ≠ y
 | 0, _, _, e => by simp [neD] at e
 | n + 1, x, y, e => by
   intro h
   subst h
   unfold neD at e
   cases x with
   | bool b => simp at e
   | int k n => simp at e
   | str s => simp at e
   | slice r => exact neL_ne (fun x y => neL_ne (neD_ne n)) e rfl
   | nil => simp [Dat.tag] at e
def AV.tag : AV → Nat
 | .d _ => 0
 | .nilS => 1
 | .full _ => 2
 | .own _ _ => 3
 | .nilP => 4
 | .ptr _ _ => 5
 | .sptr _ => 6
 | .eptr _ _ _ _ => 7
 | .nilF => 8
 | .nilI => 108
 | .nilM => 9
 | .func _ _ _ => 10
 | .mapr _ => 11
 | .agg _ => 12
 | .tuple _ => 13
def neV : Nat → AV → AV → Bool
 | 0, _, _ => false
 | n + 1, .d a, .d b => neD n a b
 | n + 1, .full a, .full b => neL (neL (neD n)) a b
 | _ + 1, .own a b, .own a' b' => a != a' || b != b'
 | _ + 1, .ptr a b, .ptr a' b' => a != a' || b != b'
 | n + 1, .sptr a, .sptr b => neL (neD n) a b
 | _ + 1, .mapr a, .mapr b => a != b
 | n + 1, .agg a, .agg b => neL (neV n) a b
 | n + 1, .tuple a, .tuple b => neL (neV n) a b
 | _ + 1, x, y => x.tag != y.tag
theorem neV_ne : ∀ (n : Nat) (x y : AV), neV n x y = true → x ≠ y
 | 0, _, _, e => by simp [neV] at e
 | n + 1, x, y, e => by
   intro h
   subst h
   unfold neV at e
   cases x with
   | d x => exact neD_ne n _ _ e rfl
   | full r => exact neL_ne (fun x y => neL_ne (neD_ne n)) e rfl
   | sptr r => exact neL_ne (neD_ne n) e rfl
   | agg r => exact neL_ne (neV_ne n) e rfl
   | tuple r => exact neL_ne (neV_ne n) e rfl
   | _ => simp at e
def neO : AObj → AObj → Bool
 | .cells a, .cells b => neL (neV 50) a b
 | .tcells S a, .tcells T b => S != T || neL (neV 50) a b
 | .map a, .map b => neL (fun p q => neD 50 p.1 q.1 || neV 50 p.2 q.2) a b
 | .iter a p, .iter b q => a != b || p != q
 | _, _ => true
theorem neO_ne (x y : AObj) (e : neO x y = true) : x ≠ y := by
 intro h
 subst h
 cases x with
 | cells a => exact neL_ne (neV_ne 50) e rfl
 | tcells T a =>
   have e' : (T != T || neL (neV 50) a a) = true := e
   rw [bne_self_eq_false, Bool.false_or] at e'
   exact neL_ne (neV_ne 50) e' rfl
 | map a =>
   refine neL_ne (fun p q h => ?_) e rfl
   intro hpq
   subst hpq
   simp only [Bool.or_eq_true] at h
   rcases h with h | h
   ·exact neD_ne 50 _ _ h rfl
   ·exact neV_ne 50 _ _ h rfl
 | iter a p => simp [neO] at e
def beqO : AObj → AObj → Bool
 | .cells a, .cells b => beqL (beqV 50) a b
 | .tcells S a, .tcells T b => S == T && beqL (beqV 50) a b
 | .map a, .map b => beqL (fun p q => beqD 50 p.1 q.1 && beqV 50 p.2 q.2) a b
 | .iter a p, .iter b q => a == b && p == q
 | _, _ => false
theorem beqO_eq (x y : AObj) (e : beqO x y = true) : x = y := by
 unfold beqO at e
 split at e
 ·rw [beqL_eq (beqV_eq 50) e]
 ·simp only [Bool.and_eq_true, beq_iff_eq] at e
  rw [e.1, beqL_eq (beqV_eq 50) e.2]
 ·rw [beqL_eq (fun p q h => by
   simp only [Bool.and_eq_true] at h
   exact Prod.ext (beqD_eq 50 _ _ h.1) (beqV_eq 50 _ _ h.2)) e]
 ·simp only [Bool.and_eq_true, beq_iff_eq] at e
  rw [e.1, e.2]
 ·cases e
def beqB (x y : ABuf) : Bool := x.e == y.e && x.sz == y.sz && x.frozen == y.frozen && beqL (beqL (beqD 50)) x.rows y.rows
theorem beqB_eq (x y : ABuf) (e : beqB x y = true) : x = y := by
 simp only [beqB, Bool.and_eq_true, beq_iff_eq] at e
 obtain ⟨⟨⟨h1, h2⟩, h3⟩, h4⟩ := e
 have h5 := beqL_eq (fun x y => beqL_eq (beqD_eq 50)) h4
 cases x; cases y
 simp only at h1 h2 h3 h5
 rw [h1, h2, h3, h5]
def beqLd : Option AV → Option AV → Bool
 | some a, some b => beqV 50 a b
 | none, none => true
 | _, _ => false
theorem beqLd_eq (x y : Option AV) (e : beqLd x y = true) : x = y := by
 cases x <;> cases y <;> simp only [beqLd] at e <;> first | rfl | cases e | exact congrArg some (beqV_eq 50 _ _ e)
structure BMark where
 i : Nat
 u : Bool × Bool
 px : Option Nat
 tch : List Nat
 co : Bool
 cb : Bool
 ld : Option (Nat × Bool × AV)
 cp : Nat → Bool → AV → Bool
section
variable (c : ACtx) (call : FuncId → AFun) (f : FuncId) (nt : Nat)
def btrace (ops : Array Oper) : Nat → List Oper → AEnv → AHeap → Option ((AEnv × AHeap) × List BMark)
 | _, [], env, A => some ((env, A), [])
 | i, o :: rest, env, A => (aguard ops env o).bind fun b =>
   if b then (aop c call f nt o env A).bind fun r => (btrace ops (i + 1) rest r.1 r.2).map fun s =>
     (s.1, ⟨i, auses env f c o, pstore env o, atouch ops env o, !(beqL beqO r.2.objs A.objs), !(beqL beqB r.2.bufs A.bufs), aldOf env c o, fun n agg p => !(beqLd (aload r.2 n agg p) (aload A n agg p))⟩ :: s.2)
   else (aput nt o.dst (.v (.tuple [])) env).bind fun env' => (btrace ops (i + 1) rest env' A).map fun s =>
     (s.1, ⟨i, (false, false), none, atouch ops env o, false, false, none, fun _ _ _ => false⟩ :: s.2)
def bdrawn (ops : Array Oper) (ms : List BMark) : Bool :=
 ((ms.all fun m => !m.co && !m.cb) || ms.all fun m => ms.all fun m' => m.i == m'.i || !((m.co && m'.u.1 && (match m'.ld with | none => true | some (n, agg, p) => m.cp n agg p)) || (m.cb && m'.u.2)) || aord ops m.i m'.i) &&
 ms.all fun m => match m.px with
  | none => true
  | some s => ms.all fun m' => m'.i == m.i || aord ops m.i m'.i || !m'.tch.contains s
def bexp (ops : Array Oper) (q : AEnv → AHeap → Bool) : Nat → Array Bool → AEnv → AHeap → Bool
 | 0, L, env, A => (Region.ready .any ops L).isEmpty && q env A
 | n + 1, L, env, A => match Region.ready .any ops L with
   | [] => q env A
   | l => l.all fun i => match ops[i]? with
     | none => false
     | some o => match astep c call f nt ops o env A with
       | none => false
       | some r => bexp ops q n (L.setIfInBounds i true) r.1 r.2
def beqS : Slot → Slot → Bool
 | .v x, .v y => beqV 50 x y
 | .box a, .box b => beqL (beqV 50) a b
 | .place s o, .place t p => s == t && o == p
 | _, _ => false
def bsub (g : Slot → Slot) (e e1 : AEnv) : Bool := e.all fun p => match alook e1 p.1 with
 | some y => beqS (g y) p.2
 | none => false
def beqH (A B : AHeap) : Bool := beqL beqO A.objs B.objs && beqL beqB A.bufs B.bufs
def bagree (m : Nat) (e : AEnv) (A : AHeap) (e1 : AEnv) (A1 : AHeap) : Bool :=
 (beqH A1 A && bsub id e e1) || (Nat.blt (m + 1) A1.bufs.length && beqH (A1.sw m) A && bsub (Slot.sw m) e e1)
def alast : List Nat → AEnv → AEnv
 | _, [] => []
 | seen, p :: l => if seen.contains p.1 then alast seen l else p :: alast (p.1 :: seen) l
def bregion (ops : Array Oper) (draw : Bool) (env : AEnv) (A : AHeap) : Option (AEnv × AHeap) :=
 if draw then (btrace c.noesc call f nt ops 0 ops.toList (noPlaces env) A).bind fun r => if bdrawn ops r.2 then some (apromote (c.esc f) ops.toList r.1.1 r.1.2) else
  if bexp c.noesc call f nt ops (bagree A.bufs.length (alast [] r.1.1) r.1.2) ops.size (Array.replicate ops.size false) (noPlaces env) A then some (apromote (c.esc f) ops.toList r.1.1 r.1.2) else none
 else aops c call f nt ops ops.toList env A
def bcode (lf : Nat) : Code → AEnv → AHeap → ARes
 | .skip, env, A => some (.normal, env, A)
 | .region id ops draw, env, A => (bregion c call f nt ops draw (atrim c f (some id) env) A).map fun r => (.normal, r.1, r.2)
 | .seq a b, env, A => (bcode lf a env A).bind fun r => match r.1 with
   | .normal => bcode lf b r.2.1 r.2.2
   | _ => some r
 | .cond x t e, env, A => match aeval env x with
   | some (.d (.bool b)) => if b then bcode lf t env A else bcode lf e env A
   | _ => none
 | .block id b, env, A => (bcode lf b env A).map fun r => match r.1 with
   | .exit j => if j = id then (.normal, r.2) else r
   | _ => r
 | .loop b, env, A => aloop (bcode lf b) (atrim c f (firstRegion b)) lf env A
 | .exit id, env, A => some (.exit id, env, A)
 | .ret, env, A => some (.ret, env, A)
 | _, _, _ => none
def bcut (A0 : AHeap) (v : AV) (A : AHeap) : Option (AV × AHeap) :=
 if beqL beqO (A.objs.take A0.objs.length) A0.objs then
  some (if v.noptr then (v, ⟨A0.objs, A.bufs.take A0.bufs.length⟩) else
  match v with
  | .own tok len => if tok < A0.bufs.length then (v, ⟨A0.objs, A.bufs.take A0.bufs.length⟩) else
    match A.bufs[tok]? with
    | some b => (.own A0.bufs.length len, ⟨A0.objs, A.bufs.take A0.bufs.length ++ [b]⟩)
    | none => (v, A)
  | _ => (v, A))
 else if neL neO (A.objs.take A0.objs.length) A0.objs then some (v, A) else none
def bcutO (A0 : AHeap) (v : AV) (A : AHeap) : Option (AV × AHeap) :=
 if beqL beqO (A.objs.take A0.objs.length) A0.objs then bcut A0 v A
 else if neL neO (A.objs.take A0.objs.length) A0.objs then some (if v.noptr = true ∧ (A.objs.take A0.objs.length).all (AObj.under A0.objs.length A0.bufs.length) = true then (v, ⟨A.objs.take A0.objs.length, A.bufs.take A0.bufs.length⟩) else (v, A)) else none
def bfinish (A0 : AHeap) (v : AV) (A : AHeap) : Option (AV × AHeap) :=
 if c.own f then bcutO A0 v A else let r := acleanR A v; bcut A0 r.1 r.2
def bbody (ok : FuncId → Bool) (lf : Nat) (args : List AV) (A : AHeap) : Option (AV × AHeap) :=
 match c.ext f with
 | some g => g args A
 | none => match c.P.funcs[f]? with
   | none => none
   | some fn => match fn.body with
     | none => none
     | some code => if ok f = true ∧ args.length ≤ fn.ntmps then
       let r := if c.own f then (args, A) else acleanVs A args
       (bcode c call f fn.ntmps lf code (aenter 0 r.1) r.2).bind fun x => match x.1 with
        | .exit _ => none
        | _ => (aresults c x.2.1 x.2.2 fn.results.toList).bind fun v => bfinish c f A v x.2.2
       else none
end
def bclF (c : ACtx) (ok : FuncId → Bool) : Nat → FuncId → AFun
 | 0 => fun _ _ _ => none
 | n + 1 => fun f args A => bbody c (bclF c ok n) f ok n args A
section
variable {c : ACtx} {call : FuncId → AFun} {f : FuncId} {nt : Nat} {ops : Array Oper}
theorem btrace_sound : ∀ (l : List Oper) {i : Nat} {env : AEnv} {A : AHeap} {r : AEnv × AHeap} {bs : List BMark}, btrace c call f nt ops i l env A = some (r, bs) →
  ∃ ms, atrace c call f nt ops i l env A = some (r, ms) ∧ ∀ m ∈ ms, ∃ b ∈ bs, b.i = m.i ∧ b.u = m.u ∧ b.px = m.px ∧ b.tch = m.tch ∧ (m.co → b.co = true) ∧ (m.cb → b.cb = true) ∧ b.ld = m.ld ∧ (∀ n agg p, m.cp n agg p → b.cp n agg p = true)
 | [], i, env, A, r, bs, h => by
   simp only [btrace] at h
   cases h
   exact ⟨[], rfl, fun m hm => by cases hm⟩
 | o :: l, i, env, A, r, bs, h => by
   simp only [btrace, Option.bind_eq_some_iff] at h
   obtain ⟨b, hb, h⟩ := h
   cases b with
   | true =>
     simp only [if_true, Option.bind_eq_some_iff, Option.map_eq_some_iff] at h
     obtain ⟨p, hp, ⟨s, bs'⟩, hs, h⟩ := h
     cases h
     obtain ⟨ms, h1, h2⟩ := btrace_sound l hs
     refine ⟨⟨i, auses env f c o, pstore env o, atouch ops env o, p.2.objs ≠ A.objs, p.2.bufs ≠ A.bufs, aldOf env c o, achg p.2 A⟩ :: ms, ?_, fun m hm => ?_⟩
     ·simp [atrace, hb, hp, h1]
     ·cases hm with
      | head =>
        refine ⟨_, List.mem_cons_self, rfl, rfl, rfl, rfl, fun hco => ?_, fun hcb => ?_, rfl, fun n agg q hcp => ?_⟩
        ·cases hq : beqL beqO p.2.objs A.objs with
         | false => simp
         | true => exact absurd (beqL_eq beqO_eq hq) hco
        ·cases hq : beqL beqB p.2.bufs A.bufs with
         | false => simp
         | true => exact absurd (beqL_eq beqB_eq hq) hcb
        ·cases hq : beqLd (aload p.2 n agg q) (aload A n agg q) with
         | false => simp [hq]
         | true => exact absurd (beqLd_eq _ _ hq) hcp
      | tail _ hm =>
        obtain ⟨b, hb1, hb2⟩ := h2 m hm
        exact ⟨b, List.mem_cons_of_mem _ hb1, hb2⟩
   | false =>
     simp only [Bool.false_eq_true, if_false, Option.bind_eq_some_iff, Option.map_eq_some_iff] at h
     obtain ⟨e, he, ⟨s, bs'⟩, hs, h⟩ := h
     cases h
     obtain ⟨ms, h1, h2⟩ := btrace_sound l hs
     refine ⟨⟨i, (false, false), none, atouch ops env o, False, False, none, fun _ _ _ => False⟩ :: ms, by simp [atrace, hb, he, h1], fun m hm => ?_⟩
     cases hm with
     | head => exact ⟨_, List.mem_cons_self, rfl, rfl, rfl, rfl, fun x => x.elim, fun x => x.elim, rfl, fun _ _ _ x => x.elim⟩
     | tail _ hm =>
       obtain ⟨b, hb1, hb2⟩ := h2 m hm
       exact ⟨b, List.mem_cons_of_mem _ hb1, hb2⟩
theorem bdrawn_sound {bs : List BMark} {ms : List AMark} (h : bdrawn ops bs = true) (hm : ∀ m ∈ ms, ∃ b ∈ bs, b.i = m.i ∧ b.u = m.u ∧ b.px = m.px ∧ b.tch = m.tch ∧ (m.co → b.co = true) ∧ (m.cb → b.cb = true) ∧ b.ld = m.ld ∧ (∀ n agg p, m.cp n agg p → b.cp n agg p = true)) : adrawn ops ms := by
 unfold bdrawn at h
 rw [Bool.and_eq_true] at h
 obtain ⟨h, hpx⟩ := h
 refine ⟨fun m h1 m' h2 hne hh => ?_, fun m h1 s hp m' h2 hne ht => ?_⟩
 rotate_left
 ·obtain ⟨b, k1, k2, k3, kp, _, k4, k5, k6, k7⟩ := hm m h1
  obtain ⟨b', l1, l2, l3, _, lt, l4, l5, l6, l7⟩ := hm m' h2
  rw [List.all_eq_true] at hpx
  have := hpx b k1
  rw [kp, hp] at this
  simp only [List.all_eq_true] at this
  have := this b' l1
  rw [Bool.or_eq_true, Bool.or_eq_true, beq_iff_eq, k2, l2, lt] at this
  rcases this with (h3 | h3) | h3
  ·exact absurd h3 hne
  ·exact h3
  ·rw [List.contains_iff_mem.2 ht] at h3
   cases h3
 obtain ⟨b, k1, k2, k3, _, _, k4, k5, k6, k7⟩ := hm m h1
 obtain ⟨b', l1, l2, l3, _, _, l4, l5, l6, l7⟩ := hm m' h2
 rw [Bool.or_eq_true] at h
 rcases h with h | h
 ·rw [List.all_eq_true] at h
  have := h b k1
  simp only [Bool.and_eq_true, Bool.not_eq_true'] at this
  rcases hh with ⟨hh, _⟩ | ⟨hh, _⟩
  ·rw [k4 hh] at this; cases this.1
  ·rw [k5 hh] at this; cases this.2
 ·rw [List.all_eq_true] at h
  have h := h b k1
  rw [List.all_eq_true] at h
  have h := h b' l1
  rw [Bool.or_eq_true, Bool.or_eq_true] at h
  rw [k2, l2, l3] at h
  rcases h with (h | h) | h
  ·exact absurd (by simpa using h) hne
  ·exfalso
   rcases hh with ⟨hh, hu, hp⟩ | ⟨hh, hu⟩
   ·rw [k4 hh, hu, l6] at h
    cases hld : m'.ld with
    | none => rw [hld] at h; simp at h
    | some r =>
      obtain ⟨n, agg, p⟩ := r
      rw [hld] at h
      have := k7 n agg p (hp n agg p hld)
      simp [this] at h
   ·rw [k5 hh, hu] at h; simp at h
  ·exact h
theorem bexp_sound {q : AEnv → AHeap → Prop} {q' : AEnv → AHeap → Bool} (hq : ∀ e A, q' e A = true → q e A) : ∀ (n : Nat) {L : Array Bool} {env : AEnv} {A : AHeap}, bexp c call f nt ops q' n L env A = true → aexp c call f nt ops q n L env A
 | 0, L, env, A, h => by
   simp only [bexp, Bool.and_eq_true, List.isEmpty_iff] at h
   exact ⟨h.1, hq _ _ h.2⟩
 | n + 1, L, env, A, h => by
   rw [bexp] at h
   split at h
   ·rename_i hr
    exact ⟨fun _ => hq _ _ h, fun i hi => by rw [hr] at hi; cases hi⟩
   ·rename_i l hr
    refine ⟨fun e => absurd e hr, fun i hi => ?_⟩
    rw [List.all_eq_true] at h
    have := h i hi
    split at this
    ·cases this
    ·rename_i o ho
     split at this
     ·cases this
     ·rename_i r hs
      exact ⟨o, r, ho, hs, bexp_sound hq n this⟩
theorem beqS_eq (x y : Slot) (h : beqS x y = true) : x = y := by
 cases x <;> cases y <;> simp only [beqS] at h <;> first | cases h; done | skip
 ·rw [beqV_eq 50 _ _ h]
 ·rw [beqL_eq (beqV_eq 50) h]
 ·simp only [Bool.and_eq_true, beq_iff_eq] at h
  rw [h.1, h.2]
theorem beqH_eq {A B : AHeap} (h : beqH A B = true) : A = B := by
 simp only [beqH, Bool.and_eq_true] at h
 cases A; cases B
 simp only at h
 rw [beqL_eq beqO_eq h.1, beqL_eq beqB_eq h.2]
theorem alast_look {t : Nat} {x : Slot} : ∀ {e : AEnv} {seen : List Nat}, alook e t = some x → seen.contains t = false → (t, x) ∈ alast seen e
 | [], _, h, _ => by cases h
 | (s, y) :: e, seen, h, hs => by
   rw [alook_cons_eq] at h
   rw [alast]
   split at h
   ·rename_i hst
    subst hst
    cases h
    simp only [hs]
    exact List.mem_cons_self
   ·rename_i hst
    split
    ·exact alast_look h hs
    ·refine List.mem_cons_of_mem _ (alast_look h ?_)
     simp only [List.contains_cons, hs, Bool.or_false, beq_eq_false_iff_ne]
     exact fun e => hst e.symm
theorem bsub_sound {g : Slot → Slot} {e e1 : AEnv} (h : bsub g (alast [] e) e1 = true) (t : Nat) (x : Slot) (hx : alook e t = some x) : (alook e1 t).map g = some x := by
 have hm := alast_look (seen := []) hx rfl
 rw [bsub, List.all_eq_true] at h
 have := h _ hm
 simp only at this
 split at this
 ·rename_i y hy
  rw [hy, Option.map_some, beqS_eq _ _ this]
 ·cases this
theorem bagree_sound {m : Nat} {e : AEnv} {A : AHeap} {e1 : AEnv} {A1 : AHeap} (h : bagree m (alast [] e) A e1 A1 = true) : aagree m e A e1 A1 := by
 simp only [bagree, Bool.or_eq_true, Bool.and_eq_true, Nat.blt_eq] at h
 rcases h with ⟨h1, h2⟩ | ⟨⟨h0, h1⟩, h2⟩
 ·refine .inl ⟨beqH_eq h1, fun t x hx => ?_⟩
  have := bsub_sound h2 t x hx
  simpa using this
 ·exact .inr ⟨h0, beqH_eq h1, bsub_sound h2⟩
theorem bregion_sound {draw : Bool} {env : AEnv} {A : AHeap} {r : AEnv × AHeap} (h : bregion c call f nt ops draw env A = some r) : aregion c call f nt ops draw env A = some r := by
 unfold bregion at h
 unfold aregion
 cases draw with
 | false => exact h
 | true =>
   simp only [if_true, Option.bind_eq_some_iff] at h ⊢
   obtain ⟨⟨s, bs⟩, h1, h2⟩ := h
   obtain ⟨ms, h3, h4⟩ := btrace_sound _ h1
   split at h2
   ·rename_i hd
    cases h2
    exact ⟨_, h3, by rw [if_pos (.inl (bdrawn_sound hd h4))]⟩
   ·split at h2
    ·rename_i hd
     cases h2
     exact ⟨_, h3, by rw [if_pos (.inr (bexp_sound (fun e1 A1 h => bagree_sound h) _ hd))]⟩
    ·cases h2
theorem aloop_sound {b1 b2 : AEnv → AHeap → ARes} {trim : AEnv → AEnv} (h : ∀ {env A r}, b1 env A = some r → b2 env A = some r) : ∀ (n : Nat) {env : AEnv} {A : AHeap} {r}, aloop b1 trim n env A = some r → aloop b2 trim n env A = some r
 | 0, env, A, r, e => by simp only [aloop] at e; cases e
 | n + 1, env, A, r, e => by
   simp only [aloop, Option.bind_eq_some_iff] at e ⊢
   obtain ⟨s, h1, h2⟩ := e
   refine ⟨s, h h1, ?_⟩
   revert h2
   cases s.1 with
   | normal => exact aloop_sound h n
   | exit _ => exact id
   | ret => exact id
theorem bcode_sound {lf : Nat} : ∀ (code : Code) {env : AEnv} {A : AHeap} {r}, bcode c call f nt lf code env A = some r → acode c call f nt lf code env A = some r
 | .skip, env, A, r, h => h
 | .region id ops draw, env, A, r, h => by
   simp only [bcode, acode, Option.map_eq_some_iff] at h ⊢
   obtain ⟨s, h1, h2⟩ := h
   exact ⟨s, bregion_sound h1, h2⟩
 | .seq p q, env, A, r, h => by
   simp only [bcode, acode, Option.bind_eq_some_iff] at h ⊢
   obtain ⟨s, h1, h2⟩ := h
   refine ⟨s, bcode_sound p h1, ?_⟩
   revert h2
   cases s.1 with
   | normal => exact bcode_sound q
   | exit _ => exact id
   | ret => exact id
 | .cond x p q, env, A, r, h => by
   simp only [bcode, acode] at h ⊢
   split at h
   ·rename_i b hb
    rw [hb]
    cases b with
    | true => simp only [if_true] at h ⊢; exact bcode_sound p h
    | false => simp only [Bool.false_eq_true, if_false] at h ⊢; exact bcode_sound q h
   ·cases h
 | .block id b, env, A, r, h => by
   simp only [bcode, acode, Option.map_eq_some_iff] at h ⊢
   obtain ⟨s, h1, h2⟩ := h
   exact ⟨s, bcode_sound b h1, h2⟩
 | .loop b, env, A, r, h => by
   simp only [bcode, acode] at h ⊢
   exact aloop_sound (fun e => bcode_sound b e) lf h
 | .exit id, env, A, r, h => h
 | .ret, env, A, r, h => h
 | .goto _, _, _, _, h => by simp [bcode] at h
 | .label _, _, _, _, h => by simp [bcode] at h
theorem bcut_sound {A0 A : AHeap} {v : AV} {r} (h : bcut A0 v A = some r) : acut A0 v A = r := by
 unfold bcut at h
 unfold acut
 split at h
 ·rename_i hb
  rw [if_pos (beqL_eq beqO_eq hb)]
  cases h
  rfl
 ·split at h
  ·rename_i hb
   rw [if_neg (neL_ne neO_ne hb)]
   cases h
   rfl
  ·cases h
theorem bcutO_sound {A0 A : AHeap} {v : AV} {r} (h : bcutO A0 v A = some r) : acutO A0 v A = r := by
 unfold bcutO at h
 unfold acutO
 split at h
 ·rename_i hb
  rw [if_pos (beqL_eq beqO_eq hb)]
  exact bcut_sound h
 ·split at h
  ·rename_i hb
   rw [if_neg (neL_ne neO_ne hb)]
   cases h
   rfl
  ·cases h
theorem bfinish_sound {A0 A : AHeap} {v : AV} {r} (h : bfinish c f A0 v A = some r) : afinish c f A0 v A = r := by
 unfold bfinish at h
 unfold afinish
 split at h
 ·rename_i ho; rw [if_pos ho]; exact bcutO_sound h
 ·rename_i ho; rw [if_neg ho]; exact bcut_sound h
theorem bbody_sound {ok : FuncId → Bool} (hok : ∀ f, ok f = true → fnOk c.P f = true) {lf : Nat} {args : List AV} {A : AHeap} {r} (h : bbody c call f ok lf args A = some r) : abody c call lf f args A = some r := by
 unfold bbody at h
 unfold abody
 split
 ·rename_i g hg; rw [hg] at h; exact h
 ·rename_i hg
  rw [hg] at h
  simp only at h
  split at h
  ·cases h
  rename_i fn hfn
  rw [hfn]
  simp only
  split at h
  ·cases h
  rename_i code hcode
  rw [hcode]
  simp only
  split at h
  ·rename_i hc
   rw [if_pos ⟨hok f hc.1, hc.2⟩]
   simp only [Option.bind_eq_some_iff] at h ⊢
   obtain ⟨x, h1, h2⟩ := h
   refine ⟨x, bcode_sound code h1, ?_⟩
   have fin : (aresults c x.2.1 x.2.2 fn.results.toList).bind (fun v => bfinish c f A v x.2.2) = some r → (aresults c x.2.1 x.2.2 fn.results.toList).map (fun v => afinish c f A v x.2.2) = some r := by
    intro h
    rw [Option.bind_eq_some_iff] at h
    obtain ⟨v, h3, h4⟩ := h
    rw [h3, Option.map_some, bfinish_sound h4]
   revert h2
   cases x.1 with
   | normal => exact fin
   | ret => exact fin
   | exit _ => exact id
  ·cases h
theorem bclF_sound {ok : FuncId → Bool} (hok : ∀ f, ok f = true → fnOk c.P f = true) : ∀ (n : Nat) {f : FuncId} {args : List AV} {A : AHeap} {r}, bclF c ok n f args A = some r → aclF c n f args A = some r
 | 0, f, args, A, r, h => by cases h
 | n + 1, f, args, A, r, h => abody_mono (fun f args A r e => bclF_sound hok n e) (Nat.le_refl _) (bbody_sound hok h)
theorem bcl_sound {ok : FuncId → Bool} (hok : ∀ f, ok f = true → fnOk c.P f = true) {n : Nat} {f : FuncId} {args : List AV} {A : AHeap} {r} (h : bclF c ok n f args A = some r) : acl c f args A = some r :=
 acl_some.2 ⟨n, bclF_sound hok n h⟩
end
section
variable {W W' : World} {g : Gh} {A : AHeap} {P : Program}
theorem Ev.grown (hw : WRel W g A) (hs : W.heap.size ≤ W'.heap.size) (hh : ∀ b, b < W.heap.size → W'.heap[b]? = W.heap[b]?) (hr : Rest W W') : Ev W g A W' g A where
 rest := hr
 size := hs
 free b hb ho := ⟨hh b hb, ho, fun _ x => x⟩
 stab b o h := ⟨h, by simp only [World.cell?, hh b (hw.stab b o h)]⟩
 ob _ _ := rfl
 objs := Nat.le_refl _
 bufs tok b hb := ⟨b, hb, rfl, Nat.le_refl _, fun _ => rfl⟩
theorem WRel.grown (hw : WRel W g A) (hs : W.heap.size ≤ W'.heap.size) (hh : ∀ b, b < W.heap.size → W'.heap[b]? = W.heap[b]?) (hr : Rest W W') : WRel W' g A where
 obj id o ho := ⟨(hw.obj id o ho).1, ((hw.obj id o ho).2).ev (Ev.grown hw hs hh hr).toEvV (hh _ (hw.lt _ _ (hw.obj id o ho).1))⟩
 buf tok b hb := (hw.buf tok b hb).keep rfl (fun _ x => x) (fun blk h => hh _ (hw.lt _ _ h)) (fun _ _ _ x => x) (fun _ _ r => (Ev.grown hw hs hh hr).relD r)
 lt blk o ho := Nat.lt_of_lt_of_le (hw.lt blk o ho) hs
 stab b o h := Nat.lt_of_lt_of_le (hw.stab b o h) hs
 sobj := hw.sobj
def closedFn (b : Bool) : AFun := fun args A => match args with
 | [] => some (.d (.bool b), A)
 | _ => none
theorem closed_extI {I : World → Gh → Prop} (hI : EvClosed I) (hI0 : ∀ W g, I W g → I W (gh0 W)) {c : ACtx} {f : FuncId} {b : Bool} {A' : AHeap} (hm : c.P.follows .mixedOrders = true) (hext : ∀ f h, c.ext f = some h → CallOk1I c.P I f h) (h : acl c f [] A00 = some (.d (.bool b), A')) : CallOk1I c.P I f (closedFn b) := by
 intro xs A x A1 hx
 unfold closedFn at hx
 split at hx
 ·cases hx
  obtain ⟨hf, hc⟩ := acl_okI hI hm hext f [] A00 _ A' h
  refine ⟨hf, fun W g vs hi hw hr => ?_⟩
  have hv : vs = [] := by
   have := hr.1
   cases vs with
   | nil => rfl
   | cons _ _ => simp at this
  subst hv
  refine (hc W (gh0 W) [] (hI0 W g hi) (wrel0 W) ⟨rfl, fun i x v h => by simp at h⟩).mono fun e W' hp => ?_
  obtain ⟨v, g', rfl, p1, p2, p3⟩ := hp
  have hh : ∀ b, b < W.heap.size → W'.heap[b]? = W.heap[b]? := fun b hb => (p3.free b hb rfl).1
  refine ⟨v, g, rfl, ?_, hw.grown p3.size hh p3.rest, Ev.grown hw p3.size hh p3.rest⟩
  have := p1.dBool
  subst this
  exact .d _ _ (.bool b)
 ·cases hx
end
section
variable {W W' : World} {g : Gh} {A : AHeap}
theorem EvV.other (hs : W.heap.size ≤ W'.heap.size) (hh : ∀ b, (g.own b ≠ none ∨ ∃ o, g.S b o) → W'.heap[b]? = W.heap[b]?) (hr : Rest W W') : EvV W g A W' g A where
 rest := hr
 size := hs
 stab b o h := ⟨h, by simp only [World.cell?, hh b (.inr ⟨o, h⟩)]⟩
 ob _ _ := rfl
 objs := Nat.le_refl _
 bufs tok b hb := ⟨b, hb, rfl, Nat.le_refl _, fun _ => rfl⟩
theorem WRel.other (hw : WRel W g A) (hs : W.heap.size ≤ W'.heap.size) (hh : ∀ b, (g.own b ≠ none ∨ ∃ o, g.S b o) → W'.heap[b]? = W.heap[b]?) (hr : Rest W W') : WRel W' g A where
 obj id o ho := ⟨(hw.obj id o ho).1, ((hw.obj id o ho).2).ev (EvV.other (A := A) hs hh hr) (hh _ (.inl (by rw [(hw.obj id o ho).1]; simp)))⟩
 buf tok b hb := (hw.buf tok b hb).keep rfl (fun _ x => x) (fun blk h => hh _ (.inl (by rw [h]; simp))) (fun _ _ _ x => x) (fun _ _ r => (EvV.other (A := A) hs hh hr).relD r)
 lt blk o ho := Nat.lt_of_lt_of_le (hw.lt blk o ho) hs
 stab b o h := Nat.lt_of_lt_of_le (hw.stab b o h) hs
 sobj := hw.sobj
end
section
variable {P : Program} {esc : FuncId → List Tmp} {own : FuncId → Bool} {live : FuncId → Nat → Option (List Nat)} {e1 e2 : FuncId → Option AFun} {ty nt0 : TypeId → Bool} {call : FuncId → AFun}
theorem aop_ext {f nt : Nat} {o : Oper} {env : AEnv} {A : AHeap} : aop ⟨P, esc, own, live, e1, ty, nt0⟩ call f nt o env A = aop ⟨P, esc, own, live, e2, ty, nt0⟩ call f nt o env A := by rfl
theorem astep_ext {f nt : Nat} {ops : Array Oper} {o : Oper} {env : AEnv} {A : AHeap} : astep ⟨P, esc, own, live, e1, ty, nt0⟩ call f nt ops o env A = astep ⟨P, esc, own, live, e2, ty, nt0⟩ call f nt ops o env A := by rfl
theorem aops_ext {f nt : Nat} {ops : Array Oper} : ∀ (l : List Oper) {env : AEnv} {A : AHeap}, aops ⟨P, esc, own, live, e1, ty, nt0⟩ call f nt ops l env A = aops ⟨P, esc, own, live, e2, ty, nt0⟩ call f nt ops l env A
 | [], env, A => rfl
 | o :: l, env, A => by
   simp only [aops]
   rw [astep_ext (e1 := e1) (e2 := e2)]
   congr 1
   funext r
   exact aops_ext l
theorem atrace_ext {f nt : Nat} {ops : Array Oper} : ∀ (l : List Oper) {i : Nat} {env : AEnv} {A : AHeap}, atrace ⟨P, esc, own, live, e1, ty, nt0⟩ call f nt ops i l env A = atrace ⟨P, esc, own, live, e2, ty, nt0⟩ call f nt ops i l env A
 | [], i, env, A => rfl
 | o :: l, i, env, A => by
   simp only [atrace]
   have h : ∀ i env A, atrace ⟨P, esc, own, live, e1, ty, nt0⟩ call f nt ops i l env A = atrace ⟨P, esc, own, live, e2, ty, nt0⟩ call f nt ops i l env A := fun i env A => atrace_ext l
   simp only [h, aop_ext (e1 := e1) (e2 := e2)]
   rfl
theorem aexp_ext {f nt : Nat} {ops : Array Oper} {q : AEnv → AHeap → Prop} : ∀ (n : Nat) {L : Array Bool} {env : AEnv} {A : AHeap}, aexp ⟨P, esc, own, live, e1, ty, nt0⟩ call f nt ops q n L env A = aexp ⟨P, esc, own, live, e2, ty, nt0⟩ call f nt ops q n L env A
 | 0, L, env, A => rfl
 | n + 1, L, env, A => by
   have h : ∀ L env A, aexp ⟨P, esc, own, live, e1, ty, nt0⟩ call f nt ops q n L env A = aexp ⟨P, esc, own, live, e2, ty, nt0⟩ call f nt ops q n L env A := fun L env A => aexp_ext n
   simp only [aexp, h, astep_ext (e1 := e1) (e2 := e2)]
theorem ite_any {α : Type} {p q : Prop} {i : Decidable p} {j : Decidable q} (h : p = q) (x y : α) : @ite _ p i x y = @ite _ q j x y := by
 subst h
 by_cases hp : p
 ·rw [if_pos hp, if_pos hp]
 ·rw [if_neg hp, if_neg hp]
theorem aregion_ext {f nt : Nat} {ops : Array Oper} {draw : Bool} {env : AEnv} {A : AHeap} : aregion ⟨P, esc, own, live, e1, ty, nt0⟩ call f nt ops draw env A = aregion ⟨P, esc, own, live, e2, ty, nt0⟩ call f nt ops draw env A := by
 unfold aregion
 simp only [ACtx.noesc]
 cases draw with
 | false =>
   simp only [Bool.false_eq_true, if_false]
   exact aops_ext (e1 := e1) (e2 := e2) _
 | true =>
   simp only [if_true]
   rw [atrace_ext (e1 := e1) (e2 := e2)]
   congr 1
   funext r
   have h := aexp_ext (P := P) (esc := fun _ => []) (own := own) (live := live) (e1 := e1) (e2 := e2) (ty := ty) (nt0 := nt0) (call := call) (f := f) (nt := nt) (ops := ops) (q := aagree A.bufs.length r.1.1 r.1.2) ops.size (L := Array.replicate ops.size false) (env := noPlaces env) (A := A)
   exact ite_any (by rw [h]) _ _
theorem acode_ext {f nt lf : Nat} : ∀ (code : Code) {env : AEnv} {A : AHeap}, acode ⟨P, esc, own, live, e1, ty, nt0⟩ call f nt lf code env A = acode ⟨P, esc, own, live, e2, ty, nt0⟩ call f nt lf code env A := by
 intro code
 induction code with
 | region id ops draw =>
   intro env A
   simp only [acode]
   rw [aregion_ext (e1 := e1) (e2 := e2)]
   rfl
 | seq x y ihx ihy =>
   intro env A
   simp only [acode]
   rw [ihx]
   congr 1
   funext r
   rw [ihy]
 | cond v x y ihx ihy =>
   intro env A
   simp only [acode]
   split
   ·split
    ·exact ihx
    ·exact ihy
   ·rfl
 | block id x ih =>
   intro env A
   simp only [acode]
   rw [ih]
 | loop x ih =>
   intro env A
   simp only [acode]
   have h : acode ⟨P, esc, own, live, e1, ty, nt0⟩ call f nt lf x = acode ⟨P, esc, own, live, e2, ty, nt0⟩ call f nt lf x := by funext env A; exact ih
   rw [h]
   rfl
 | _ => intro env A; rfl
theorem aresultL_ext {env : AEnv} {A : AHeap} : ∀ l, aresultL ⟨P, esc, own, live, e1, ty, nt0⟩ env A l = aresultL ⟨P, esc, own, live, e2, ty, nt0⟩ env A l
 | [] => rfl
 | x :: l => by
   simp only [aresultL]
   rw [aresultL_ext l]
   rfl
theorem aresults_ext {env : AEnv} {A : AHeap} (l : List ResultVar) : aresults ⟨P, esc, own, live, e1, ty, nt0⟩ env A l = aresults ⟨P, esc, own, live, e2, ty, nt0⟩ env A l := by
 unfold aresults
 rw [aresultL_ext (e1 := e1) (e2 := e2)]
theorem abody_ext {n : Nat} {f : FuncId} {args : List AV} {A : AHeap} (h1 : e1 f = none) (h2 : e2 f = none) : abody ⟨P, esc, own, live, e1, ty, nt0⟩ call n f args A = abody ⟨P, esc, own, live, e2, ty, nt0⟩ call n f args A := by
 unfold abody
 simp only [h1, h2]
 simp only [acode_ext (e1 := e1) (e2 := e2), aresults_ext (e1 := e1) (e2 := e2)]
 rfl
theorem aclF_up (h : ∀ f, (e1 f = none ∧ e2 f = none) ∨ (∃ k, e1 f = some k ∧ ∀ args A r, k args A = some r → ∃ k', e2 f = some k' ∧ k' args A = some r)) : ∀ n, CLe (aclF ⟨P, esc, own, live, e1, ty, nt0⟩ n) (aclF ⟨P, esc, own, live, e2, ty, nt0⟩ n)
 | 0 => fun f args A r e => by simp [aclF] at e
 | n + 1 => fun f args A r e => by
   simp only [aclF] at e ⊢
   rcases h f with ⟨h1, h2⟩ | ⟨k, h1, h2⟩
   ·rw [abody_ext h1 h2] at e
    exact abody_mono (aclF_up h n) (Nat.le_refl _) e
   ·have : k args A = some r := by
     unfold abody at e
     simp only [h1] at e
     exact e
    obtain ⟨k', h3, h4⟩ := h2 args A r this
    unfold abody
    simp only [h3]
    exact h4
end
theorem acl_up {c : ACtx} {e : FuncId → Option AFun} (h : ∀ f, (c.ext f = none ∧ e f = none) ∨ (∃ k, c.ext f = some k ∧ ∀ args A r, k args A = some r → ∃ k', e f = some k' ∧ k' args A = some r)) {f : FuncId} {args : List AV} {A : AHeap} {r : AV × AHeap} (hr : acl c f args A = some r) :
  acl { c with ext := e } f args A = some r := by
 obtain ⟨n, hn⟩ := acl_some.1 hr
 exact acl_some.2 ⟨n, aclF_up h n _ _ _ _ hn⟩
def failFn : AFun := fun _ _ => none
def rowStrs : List (List Dat) → Option (List (List UInt8))
 | [] => some []
 | [.str s] :: l => (rowStrs l).map (s :: ·)
 | _ => none
def fmtFn (itoa : Int → List UInt8) : AFun := fun args A => match (acleanVs A args).1 with
 | [.d (.int .i64 n), .d (.int .i64 b)] => if b = 10 ∧ -9223372036854775808 ≤ n ∧ n ≤ 9223372036854775807 then some (.d (.str (itoa n)), (acleanVs A args).2) else none
 | _ => none
inductive PN where
 | fn (f : FuncId) (args : List AV)
 | code (f nt : Nat) (code : Code) (env : AEnv)
 | rnd (f nt n : Nat) (b : Code) (env : AEnv)
 | ops (f nt : Nat) (ops : Array Oper) (l : List Oper) (env : AEnv)
 | call (env : AEnv) (o : Oper)
def adrawnP (ops : Array Oper) (ms : List AMark) (k : Nat) : Prop :=
 adrawn ops ms ∧ (∀ m ∈ ms, (m.co ∨ m.cb ∨ m.px ≠ none) → aord ops m.i k = true) ∧ ∀ j, k < j → j < ops.size → aord ops k j = true
inductive Pan (c : ACtx) (px : FuncId → List AV → AHeap → AV → AHeap → Prop) : PN → AHeap → AV → AHeap → Prop where
 | ext {f args A x A'} (h : px f args A x A') : Pan c px (.fn f args) A x A'
 | body {f args A x A' fn code args1 A1 A2 y} (h1 : c.ext f = none) (h2 : c.P.funcs[f]? = some fn) (h3 : fn.body = some code) (h4 : fnOk c.P f = true) (h5 : args.length ≤ fn.ntmps)
   (h7 : (if c.own f then (args, A) else acleanVs A args) = (args1, A1)) (h8 : Pan c px (.code f fn.ntmps code (aenter 0 args1)) A1 y A2) (h9 : afinish c f A y A2 = (x, A')) : Pan c px (.fn f args) A x A'
 | seq1 {f nt a b env A x A'} (h : Pan c px (.code f nt a env) A x A') : Pan c px (.code f nt (.seq a b) env) A x A'
 | seq2 {f nt a b env A x A' e1 A1} (h1 : ax c f nt a env A = some (.normal, e1, A1)) (h : Pan c px (.code f nt b e1) A1 x A') : Pan c px (.code f nt (.seq a b) env) A x A'
 | condT {f nt v p q env A x A'} (h1 : aeval env v = some (.d (.bool true))) (h : Pan c px (.code f nt p env) A x A') : Pan c px (.code f nt (.cond v p q) env) A x A'
 | condF {f nt v p q env A x A'} (h1 : aeval env v = some (.d (.bool false))) (h : Pan c px (.code f nt q env) A x A') : Pan c px (.code f nt (.cond v p q) env) A x A'
 | block {f nt id b env A x A'} (h : Pan c px (.code f nt b env) A x A') : Pan c px (.code f nt (.block id b) env) A x A'
 | loop {f nt n b env A x A'} (h : Pan c px (.rnd f nt n b env) A x A') : Pan c px (.code f nt (.loop b) env) A x A'
 | rnd1 {f nt n b env A x A'} (h : Pan c px (.code f nt b (atrim c f (firstRegion b) env)) A x A') : Pan c px (.rnd f nt (n + 1) b env) A x A'
 | rnd2 {f nt n b env A x A' e1 A1} (h1 : ax c f nt b (atrim c f (firstRegion b) env) A = some (.normal, e1, A1)) (h : Pan c px (.rnd f nt n b e1) A1 x A') : Pan c px (.rnd f nt (n + 1) b env) A x A'
 | region {f nt id ops env A x A'} (h : Pan c px (.ops f nt ops ops.toList (atrim c f (some id) env)) A x A') : Pan c px (.code f nt (.region id ops false) env) A x A'
 | here {f nt ops o rest env A x A'} (h1 : aguard ops env o = some true) (h : Pan c px (.call env o) A x A') : Pan c px (.ops f nt ops (o :: rest) env) A x A'
 | next {f nt ops o rest env A x A' e1 A1} (h1 : astep c (acl c) f nt ops o env A = some (e1, A1)) (h : Pan c px (.ops f nt ops rest e1) A1 x A') : Pan c px (.ops f nt ops (o :: rest) env) A x A'
 | call {env o A x A' gop as ts g first captured args} (h1 : o.op = .call ⟨.value gop, as, ts⟩) (h2 : aeval env gop = some (.func (.func g) first captured)) (h3 : aevals env as.toList = some args)
   (h : Pan c px (.fn g (first ++ args ++ captured)) A x A') : Pan c px (.call env o) A x A'
 | drawn {f nt id ops pre o post env A x A' e1 A1 ms gop as ts g first captured args} (h1 : ops.toList = pre ++ o :: post) (h2 : atrace c.noesc (acl c) f nt ops 0 pre (noPlaces (atrim c f (some id) env)) A = some ((e1, A1), ms))
   (h3 : aguard ops e1 o = some true) (h4 : adrawnP ops ms pre.length) (h5 : o.op = .call ⟨.value gop, as, ts⟩) (h6 : aeval e1 gop = some (.func (.func g) first captured)) (h7 : aevals e1 as.toList = some args)
   (h : Pan c px (.fn g (first ++ args ++ captured)) A1 x A') : Pan c px (.code f nt (.region id ops true) env) A x A'
def PanPost (T : TypeId) (W : World) (g : Gh) (A : AHeap) (x : AV) (A' : AHeap) (e : Ending) (W' : World) : Prop :=
 ∃ v g', e = .panicked [{ v := .iface T v, recovered := false }] ∧ RelV W' g' A' x v ∧ WRel W' g' A' ∧ Ev W g A W' g' A'
def PxOk (P : Program) (T : TypeId) (I : World → Gh → Prop) (px : FuncId → List AV → AHeap → AV → AHeap → Prop) : Prop :=
 ∀ (f : FuncId) (xs : List AV) (A : AHeap) (x : AV) (A' : AHeap), px f xs A x A' →
   (∃ fn, P.funcs[f]? = some fn ∧ (fn.name == "runtime.NumGoroutine") = false ∧ fn.body.isNone = false) ∧
   ∀ (W : World) (g : Gh) (vs : List Value), I W g → WRel W g A → RelL W g A xs vs → Calls P f vs.toArray W (PanPost T W g A x A')
def PSt (T : TypeId) (W0 : World) (g0 : Gh) (A0 : AHeap) (x : AV) (A : AHeap) (ch : List PanicEntry) (a : Act) (W : World) : Prop :=
 ∃ v g, ch = [{ v := .iface T v, recovered := false }] ∧ RelV W g A x v ∧ WRel W g A ∧ Ev W0 g0 A0 W g A ∧ a.defers = []
section
variable {c : ACtx} {px : FuncId → List AV → AHeap → AV → AHeap → Prop} {T : TypeId} {I : World → Gh → Prop}
def PanOk (c : ACtx) (T : TypeId) (I : World → Gh → Prop) : PN → AHeap → AV → AHeap → Prop
 | .fn f args, A, x, A' =>
   (∃ fn, c.P.funcs[f]? = some fn ∧ (fn.name == "runtime.NumGoroutine") = false ∧ fn.body.isNone = false) ∧
   ∀ (W : World) (g : Gh) (vs : List Value), I W g → WRel W g A → RelL W g A args vs → Calls c.P f vs.toArray W (PanPost T W g A x A')
 | .code f nt code env, A, x, A' => acheck code = true → ∀ (W0 : World) (g0 : Gh) (A0 : AHeap) (a : Act) (W : World) (Q : Exit → Act → World → Prop), I W0 g0 → St W0 g0 A0 nt env A a W →
   (∀ ch a W, PSt T W0 g0 A0 x A' ch a W → Q (.panic ch) a W) → code.wp c.P Q a W
 | .rnd f nt n b env, A, x, A' => acheck b = true → ∀ (W0 : World) (g0 : Gh) (A0 : AHeap) (a : Act) (W : World) (Q : Exit → Act → World → Prop), I W0 g0 → St W0 g0 A0 nt env A a W →
   (∀ ch a W, PSt T W0 g0 A0 x A' ch a W → Q (.panic ch) a W) → Code.rounds c.P b Q n a W
 | .ops f nt ops l env, A, x, A' => ∀ (W0 : World) (g0 : Gh) (A0 : AHeap) (a : Act) (W : World) (Q : Exit → Act → World → Prop) (i : Nat), I W0 g0 → l = ops.toList.drop i → St W0 g0 A0 nt env A a W →
   (∀ ch a W, PSt T W0 g0 A0 x A' ch a W → Q (.panic ch) a W) → wpOps c.P ops Q (List.range' i l.length) a W
 | .call env o, A, x, A' => ∀ (W0 : World) (g0 : Gh) (A0 : AHeap) (nt : Nat) (a : Act) (W : World) (K : Act → World → Prop) (Q : Exit → Act → World → Prop), I W0 g0 → St W0 g0 A0 nt env A a W →
   (∀ ch a W, PSt T W0 g0 A0 x A' ch a W → Q (.panic ch) a W) → o.wp c.P a W K Q
theorem pan_call (hI : EvClosed I) {env : AEnv} {o : Oper} {A : AHeap} {x : AV} {A' : AHeap} {gop : Operand} {as : Array Operand} {ts : Array TypeId} {g : FuncId} {first captured args : List AV}
  (ho : o.op = .call ⟨.value gop, as, ts⟩) (hg : aeval env gop = some (.func (.func g) first captured)) (ha : aevals env as.toList = some args)
  (ih : PanOk c T I (.fn g (first ++ args ++ captured)) A x A') : PanOk c T I (.call env o) A x A' := by
 intro W0 g0 A0 nt a W K Q hi ⟨g1, β, s⟩ hq
 obtain ⟨⟨fn, hf, hnm, hbd⟩, hcalls⟩ := ih
 have hgr := aeval_rel s.e hg
 have har := args_vals s.e ha
 generalize hv : a.eval gop = v at hgr
 cases hgr with
 | func _ _ _ vs us h1 h2 r1 r2 =>
 have hrel : RelL W g1 A (first ++ args ++ captured) (vs ++ (as.map a.eval).toList ++ us) := ((show RelL W g1 A first vs from ⟨h1, r1⟩).append har).append ⟨h2, r2⟩
 have hC := hcalls W g1 _ (hI _ _ _ _ _ _ hi s.ev) s.w hrel
 have hrun : (execOp a.eval o).run c.P W = .ok (.enter g (vs ++ (as.map a.eval).toList ++ us).toArray) W := by
  unfold execOp
  rw [ho]
  simp only [Sem.run_bind, resolve, hv, Deferred.ofValue, Sem.run_pure, Result.andThen_ok, invoke, callFunc, run_program, hf, hnm, hbd, Bool.false_eq_true, if_false]
  congr 2
  simp
 unfold Oper.wp
 rw [hrun, Oper.upon_enter]
 refine Calls.mono hC fun e W' hp => ?_
 obtain ⟨v, g', rfl, p1, p2, p3⟩ := hp
 exact hq _ a W' ⟨v, g', rfl, p1, p2, s.ev.trans p3, s.df⟩
end
section
variable {c c0 : ACtx} {call : FuncId → AFun} {f nt : Nat} {ops : Array Oper} {ms : List AMark} {K : Nat} {E : Nat → AEnv} {H : Nat → AHeap}
theorem Inv.atPan (h : Tr c call f nt ops ms K E H) (hs : Stat ops) (hP : adrawnP ops ms K) (h0 : PlaceOk ops (E 0)) {L : Array Bool} {F : AEnv} {G : AHeap} (v : Inv ops K E H L F G) {o : Oper} (ho : ops[K]? = some o) (hk : L[K]? ≠ some true)
  (he : ∀ e ∈ o.after, Region.binds .any e = true → L[e.on]? = some true) : Agree ops o (E K) F ∧ G = H K := by
 have mark : ∀ {j : Nat} {oj : Oper}, j < K → ops[j]? = some oj → aguard ops (E j) oj = some true → ∃ m ∈ ms, m.i = j ∧ m.px = pstore (E j) oj ∧ ((H (j + 1)).objs ≠ (H j).objs → m.co) ∧ ((H (j + 1)).bufs ≠ (H j).bufs → m.cb) := by
  intro j oj hj hoj hg
  rcases h.2 j oj hj hoj with ⟨_, _, k3⟩ | ⟨k1, _, _⟩
  ·exact ⟨_, k3, rfl, rfl, fun x => x, fun x => x⟩
  ·rw [hg] at k1; cases k1
 have ordw : ∀ j t, Wr ops K E j t → t ∈ anames ops o ∨ (∃ oj, ops[j]? = some oj ∧ pex ops (E j) oj = some t) → L[j]? = some true := by
  rintro j t ⟨hjK, oj, hoj, hw⟩ hh
  have hne : j ≠ K := by omega
  refine (ord_iff v.cl ho hk he hne ?_).1 hjK
  have viaP : pex ops (E j) oj = some t → aord ops j K = true := by
   intro hp
   obtain ⟨_, hps, hgj⟩ := pex_stores hp
   obtain ⟨m, hm, hmi, hpx, _⟩ := mark hjK hoj hgj
   have := hP.2.1 m hm (.inr (.inr (by rw [hpx, hps]; intro e; cases e)))
   rwa [hmi] at this
  rcases hw with hw | hw
  ·rcases hh with hh | ⟨o2, ho2, hp⟩
   ·exact hs.ord j K oj o hoj ho hne ⟨t, hw, hh⟩
   ·rw [hoj] at ho2; cases ho2; exact viaP hp
  ·exact viaP hw
 have hlook : ∀ t, t ∈ o.looksAt ops → t ∈ anames ops o := fun t ht => by unfold anames; exact List.mem_append.2 (.inl ht)
 have hpk := h.places hs h0 K (Nat.le_refl _)
 have slk : ∀ t, t ∈ anames ops o → alook F t = alook (E K) t := fun t ht => v.sl t K (Nat.le_refl _) fun j hj => ⟨fun _ => ordw j t hj (.inl ht), fun _ => hj.1⟩
 refine ⟨⟨fun t ht => (slk t (hlook t ht)).symm, fun t ht s off hp => ?_, fun d hd _ => ?_⟩, ?_⟩
 ·refine (v.sl s K (Nat.le_refl _) fun j hj => ⟨fun _ => ?_, fun _ => hj.1⟩).symm
  obtain ⟨hjK, oj, hoj, hw⟩ := hj
  rcases hw with hw | hw
  ·exact absurd hw (hpk _ (alook_mem hp) s off rfl oj (by have := Array.mem_of_getElem? hoj; simpa using this))
  ·exact ordw j s ⟨hjK, oj, hoj, .inr hw⟩ (.inr ⟨oj, hoj, hw⟩)
 ·refine noPlaceOf_of fun p hp s off hps => ?_
  have := v.pl p hp s off hps o (by have := Array.mem_of_getElem? ho; simpa using this)
  intro e
  subst e
  exact this hd
 ·have e1 : G.objs = (H K).objs := v.ob K (Nat.le_refl _) fun j hj => ⟨fun _ => ?_, fun _ => hj.1⟩
  have e2 : G.bufs = (H K).bufs := v.bf K (Nat.le_refl _) fun j hj => ⟨fun _ => ?_, fun _ => hj.1⟩
  ·cases hG : G; cases hH : H K
   rw [hG, hH] at e1 e2
   simp only at e1 e2
   rw [e1, e2]
  ·obtain ⟨hjK, oj, hoj, hg, hch⟩ := hj
   obtain ⟨m, hm, hmi, _, _, hcb⟩ := mark hjK hoj hg
   have := hP.2.1 m hm (.inr (.inl (hcb hch)))
   rw [hmi] at this
   exact (ord_iff v.cl ho hk he (by omega) this).1 hjK
  ·obtain ⟨hjK, oj, hoj, hg, hch⟩ := hj
   obtain ⟨m, hm, hmi, _, hco, _⟩ := mark hjK hoj hg
   have := hP.2.1 m hm (.inl (hco hch))
   rw [hmi] at this
   exact (ord_iff v.cl ho hk he (by omega) this).1 hjK
theorem drawn_pan {T : TypeId} {I : World → Gh → Prop} {W0 : World} {g0 : Gh} {A0 : AHeap} {Q : Exit → Act → World → Prop} (hI : EvClosed I) (hP0 : c.P = c0.P) (hc : CallAt W0 g0 c.P call) (hi : I W0 g0) (h : Tr c call f nt ops ms K E H) (hs : Stat ops) (hP : adrawnP ops ms K) (h0 : PlaceOk ops (E 0))
  {o : Oper} (ho : ops[K]? = some o) (hgd : aguard ops (E K) o = some true) {gop : Operand} {as : Array Operand} {ts : Array TypeId} {g : FuncId} {first captured args : List AV} {x : AV} {A' : AHeap}
  (hop : o.op = .call ⟨.value gop, as, ts⟩) (hgv : aeval (E K) gop = some (.func (.func g) first captured)) (ha : aevals (E K) as.toList = some args) (ih : PanOk c0 T I (.fn g (first ++ args ++ captured)) (H K) x A')
  (hq : ∀ ch a W, PSt T W0 g0 A0 x A' ch a W → Q (.panic ch) a W) :
  ∀ (fuel : Nat) (L : Array Bool) (F : AEnv) (G : AHeap) (a : Act) (W : World), L.toList.count false = fuel → Inv ops K E H L F G → (∀ j, K ≤ j → L[j]? ≠ some true) → St W0 g0 A0 nt F G a W → wpAny c.P .any ops Q fuel L a W := by
 have hKs : K < ops.size := (Array.getElem?_eq_some_iff.1 ho).1
 intro fuel
 induction fuel with
 | zero =>
   intro L F G a W hcnt v hlt st
   exfalso
   have hil : K < L.size := by rw [v.sz]; exact hKs
   cases hb : L[K] with
   | true => exact hlt K (Nat.le_refl _) (by rw [Array.getElem?_eq_getElem hil, hb])
   | false =>
     have : false ∈ L.toList := by rw [← hb]; simp
     have := List.count_pos_iff.2 this
     omega
 | succ fuel ihf =>
   intro L F G a W hcnt v hlt st
   refine ⟨fun hr => absurd (ready_nil hr v.sz hs K hKs) (hlt K (Nat.le_refl _)), fun i hir => ?_⟩
   obtain ⟨oi, hoi, hf, he⟩ := ready_mem hir v.sz
   have hnl : L[i]? ≠ some true := by rw [hf]; intro e; cases e
   rcases Nat.lt_trichotomy i K with hik | hik | hik
   ·obtain ⟨F', G', hst, v'⟩ := v.step h hs hP.1 h0 hik hoi hnl he
    obtain ⟨g1, β, s⟩ := st
    refine wpOp_mono (fun a' W' st' => ihf _ F' G' a' W' ?_ v' (fun j hj hl => ?_) st') (astep_wp hc s hoi hst)
    ·have := count_set hf
     omega
    ·have hil : i < L.size := (Array.getElem?_eq_some_iff.1 hf).1
     rcases (set_get L i j hil).1 hl with rfl | hl
     ·omega
     ·exact hlt j hj hl
   ·subst hik
    rw [ho] at hoi
    cases hoi
    obtain ⟨hag, hG⟩ := v.atPan h hs hP h0 ho hnl he
    rw [hG] at st
    obtain ⟨g1, β, s⟩ := st
    have hgF : aguard ops F o = some true := by rw [← aguard_same hag]; exact hgd
    have hw := aguard_wanted s hgF
    unfold wpOp
    simp only [ho, hw, if_true]
    have hgv' : aeval F gop = some (.func (.func g) first captured) := by rw [← aeval_same (fun t' ht' => hag.operand (by simp [hop, Op.operands, Call.operands]) t' ht')]; exact hgv
    have ha' : aevals F as.toList = some args := by
     rw [← aevals_same (E := E i) (F := F) fun x hx => aeval_same fun t' ht' => hag.operand (by simp [hop, Op.operands, Call.operands]; exact .inr (by simpa using hx)) t' ht']
     exact ha
    refine .inl ?_
    have := pan_call hI hop hgv' ha' ih W0 g0 A0 nt a W (wpAny c.P .any ops Q fuel (L.setIfInBounds i true)) Q hi ⟨g1, β, s⟩ hq
    rw [← hP0] at this
    exact this
   ·exfalso
    have hord := hP.2.2 i hik (Array.getElem?_eq_some_iff.1 hoi).1
    unfold aord at hord
    rw [Nat.max_eq_right (by omega), Nat.min_eq_left (by omega)] at hord
    exact hlt K (Nat.le_refl _) (before_listed v.cl i K oi hoi he hord)
end
section
variable {c : ACtx} {px : FuncId → List AV → AHeap → AV → AHeap → Prop} {T : TypeId} {I : World → Gh → Prop}
theorem pan_ok (hI : EvClosed I) (hm : c.P.follows .mixedOrders = true) (hext : ∀ f h, c.ext f = some h → CallOk1I c.P I f h) (hpx : PxOk c.P T I px) {n : PN} {A : AHeap} {x : AV} {A' : AHeap} (h : Pan c px n A x A') : PanOk c T I n A x A' := by
 have callF : ∀ k, CallOkI c.P I (aclF c k) := aclF_ok hI hm hext
 have callL : CallOkI c.P I (acl c) := acl_okI hI hm hext
 induction h with
 | ext h => exact hpx _ _ _ _ _ h
 | @body f args A x A' fn code args1 A1 A2 y h1 h2 h3 h4 h5 h7 h8 h9 ih =>
   have facts : (∃ fn, c.P.funcs[f]? = some fn ∧ (fn.name == "runtime.NumGoroutine") = false ∧ fn.body.isNone = false) ∧ acheck code = true := by
    unfold fnOk at h4
    rw [h2] at h4
    simp only [h3, Bool.and_eq_true] at h4
    refine ⟨⟨fn, h2, ?_, by rw [h3]; rfl⟩, h4.2⟩
    have := h4.1
    simp only [bne_iff_ne, ne_eq] at this
    simpa using this
   refine ⟨facts.1, fun W g vs hi hw hr => ?_⟩
   have enter : ∃ g1, RelL W g1 (if c.own f then (args, A) else acleanVs A args).2 (if c.own f then (args, A) else acleanVs A args).1 vs ∧ WRel W g1 (if c.own f then (args, A) else acleanVs A args).2 ∧ Ev W g A W g1 (if c.own f then (args, A) else acleanVs A args).2 := by
    split
    ·exact ⟨g, hr, hw, .refl _ _ _⟩
    ·exact acleanVs_rel hw hr
   obtain ⟨g1, r1, w1, e1⟩ := enter
   rw [h7] at r1 w1 e1
   simp only at r1 w1 e1
   have hl1 : args1.length ≤ fn.ntmps := by
    have q1 := r1.1
    have q2 := hr.1
    omega
   have hvl : vs.length ≤ fn.ntmps := by rw [← r1.1]; exact hl1
   refine calls_of_wp h2 h3 ?_
   have st0 : StG W g A fn.ntmps (aenter 0 args1) A1 { tmps := vs.toArray ++ Array.replicate (fn.ntmps - vs.toArray.size) undef, defers := [] } W g1 (fun _ => 0) := by
    refine ⟨w1, ⟨by simp; omega, fun t s hs => ?_, fun p q c1 c2 h1 => ?_, fun t cs h1 => ?_⟩, e1, rfl⟩
    ·obtain ⟨y, h1, _, rfl⟩ := aenter_look 0 args1 t s hs
     rw [Nat.sub_zero] at h1
     have hlt : t < vs.length := r1.1 ▸ lt_of_get h1
     refine .v y vs[t] ?_ (r1.2 t y _ h1 (List.getElem?_eq_getElem hlt))
     simp only
     rw [Array.getElem?_append_left (by simpa using hlt), List.getElem?_toArray]
     exact List.getElem?_eq_getElem hlt
    ·obtain ⟨y, _, _, h2⟩ := aenter_look 0 args1 p _ h1
     cases h2
    ·obtain ⟨y, _, _, h2⟩ := aenter_look 0 args1 t _ h1
     cases h2
   refine ih facts.2 W g A _ W _ hi ⟨g1, _, st0⟩ fun ch a' W' hp => ?_
   obtain ⟨v, g2, rfl, p1, p2, p3, p4⟩ := hp
   obtain ⟨g3, r3, w3, e3⟩ := afinish_rel (c := c) (f := f) hw p2 p3 p1
   rw [h9] at r3 w3 e3
   exact ⟨p4, v, g3, rfl, r3, w3, e3⟩
 | @seq1 f nt a b env A x A' h ih =>
   intro hk W0 g0 A0 ac W Q hi st hq
   simp only [acheck, Bool.and_eq_true] at hk
   exact wp_seq (ih hk.1 W0 g0 A0 ac W _ hi st fun ch a' W' hp => hq ch a' W' hp)
 | @seq2 f nt a b env A x A' e1 A1 h1 h ih =>
   intro hk W0 g0 A0 ac W Q hi st hq
   simp only [acheck, Bool.and_eq_true] at hk
   obtain ⟨k, hk1⟩ := ax_some.1 h1
   exact wp_seq (acode_wp hm (callAt_of hI (callF k) hi) a hk.1 hk1 st fun a' W' st' => ih hk.2 W0 g0 A0 a' W' _ hi st' hq)
 | @condT f nt v p q env A x A' h1 h ih =>
   intro hk W0 g0 A0 ac W Q hi st hq
   simp only [acheck, Bool.and_eq_true] at hk
   obtain ⟨g, β, s⟩ := st
   exact wp_cond (aeval_rel s.e h1).dBool (ih hk.1 W0 g0 A0 ac W _ hi ⟨g, β, s⟩ hq)
 | @condF f nt v p q env A x A' h1 h ih =>
   intro hk W0 g0 A0 ac W Q hi st hq
   simp only [acheck, Bool.and_eq_true] at hk
   obtain ⟨g, β, s⟩ := st
   exact wp_cond (aeval_rel s.e h1).dBool (ih hk.2 W0 g0 A0 ac W _ hi ⟨g, β, s⟩ hq)
 | @block f nt id b env A x A' h ih =>
   intro hk W0 g0 A0 ac W Q hi st hq
   simp only [acheck] at hk
   exact wp_block (ih hk W0 g0 A0 ac W _ hi st fun ch a' W' hp => hq ch a' W' hp)
 | @loop f nt n b env A x A' h ih =>
   intro hk W0 g0 A0 ac W Q hi st hq
   simp only [acheck] at hk
   exact wp_loop_rounds n (ih hk W0 g0 A0 ac W _ hi st hq)
 | @rnd1 f nt n b env A x A' h ih =>
   intro hk W0 g0 A0 ac W Q hi st hq
   obtain ⟨g, β, s⟩ := st
   exact ih hk W0 g0 A0 ac W _ hi ⟨g, β, s.sub fun t x hx => atrim_look hx⟩ fun ch a' W' hp => hq ch a' W' hp
 | @rnd2 f nt n b env A x A' e1 A1 h1 h ih =>
   intro hk W0 g0 A0 ac W Q hi st hq
   obtain ⟨k, hk1⟩ := ax_some.1 h1
   obtain ⟨g, β, s⟩ := st
   exact acode_wp hm (callAt_of hI (callF k) hi) b hk hk1 ⟨g, β, s.sub fun t x hx => atrim_look hx⟩ fun a' W' st' => ih hk W0 g0 A0 a' W' _ hi st' hq
 | @region f nt id ops env A x A' h ih =>
   intro hk W0 g0 A0 ac W Q hi st hq
   obtain ⟨g, β, s⟩ := st
   refine wp_region ?_
   have := ih W0 g0 A0 ac W Q 0 hi (by simp) ⟨g, β, s.sub fun t x hx => atrim_look hx⟩ hq
   rw [List.range_eq_range']
   simpa using this
 | @here f nt ops o rest env A x A' h1 h ih =>
   intro W0 g0 A0 ac W Q i hi hl st hq
   have ho : ops[i]? = some o := by
    have : (ops.toList.drop i)[0]? = some o := by rw [← hl]; rfl
    rw [List.getElem?_drop, Nat.add_zero, Array.getElem?_toList] at this
    exact this
   obtain ⟨g, β, s⟩ := st
   have hw := aguard_wanted s h1
   simp only [List.length_cons, List.range'_succ, wpOps_cons]
   unfold wpOp
   simp only [ho, hw, if_true]
   exact .inl (ih W0 g0 A0 nt ac W _ Q hi ⟨g, β, s⟩ hq)
 | @next f nt ops o rest env A x A' e1 A1 h1 h ih =>
   intro W0 g0 A0 ac W Q i hi hl st hq
   have ho : ops[i]? = some o := by
    have : (ops.toList.drop i)[0]? = some o := by rw [← hl]; rfl
    rw [List.getElem?_drop, Nat.add_zero, Array.getElem?_toList] at this
    exact this
   have hl' : rest = ops.toList.drop (i + 1) := by
    rw [← List.tail_drop, ← hl]; rfl
   obtain ⟨g, β, s⟩ := st
   simp only [List.length_cons, List.range'_succ, wpOps_cons]
   exact wpOp_mono (fun a' W' hs' => ih W0 g0 A0 a' W' Q (i + 1) hi hl' hs' hq) (astep_wp (callAt_of hI callL hi) s ho h1)
 | call h1 h2 h3 h ih => exact pan_call hI h1 h2 h3 ih
 | @drawn f nt id ops pre o post env A x A' e1 A1 ms gop as ts g first captured args h1 h2 h3 h4 h5 h6 h7 h ih =>
   intro hk W0 g0 A0 ac W Q hi st hq
   simp only [acheck] at hk
   have hs : Stat ops := stat_of (by simpa using hk)
   obtain ⟨E, H, q1, q2, q3, q4, q5⟩ := trace_spec pre 0 _ _ _ _ _ h2
   simp only [Nat.zero_add] at q3 q4 q5
   have hsz : ops.size = pre.length + (post.length + 1) := by rw [← Array.length_toList, h1]; simp
   have get : ∀ k o', k < pre.length → ops[k]? = some o' → pre[k]? = some o' := fun k o' hk ho => by
    rw [← Array.getElem?_toList, h1, List.getElem?_append_left hk] at ho
    exact ho
   have tr : Tr c.noesc (acl c) f nt ops ms pre.length E H := ⟨by omega, fun k o hk ho => q5 k o (get k o hk ho)⟩
   have h0 : PlaceOk ops (E 0) := by rw [q1]; exact noPlaces_ok _
   have ho : ops[pre.length]? = some o := by rw [← Array.getElem?_toList, h1]; simp
   have hn : ∀ j : Nat, (Array.replicate ops.size false)[j]? ≠ some true := by
    intro j h
    rw [Array.getElem?_replicate] at h
    split at h <;> cases h
   refine wp_region_any hm (drawn_pan (c := c.noesc) (c0 := c) hI rfl (callAt_of hI callL hi) hi tr hs h4 h0 ho (by rw [q3]; exact h3) h5 (by rw [q3]; exact h6) (by rw [q3]; exact h7) (by rw [q4]; exact ih) hq _ _ (E 0) (H 0) ac _ (by simp) (inv0 h0 (fun t i hi hw => ?_) (fun i hi hw => ?_) (fun i hi hw => ?_)) (fun j _ => hn j) ?_)
   ·exact (tr.slots (Nat.zero_le _) hi fun j hj hh => hw j hj hh.2).symm
   ·exact (tr.objs (Nat.zero_le _) hi fun j hj hh => hw j hj hh.2).symm
   ·exact (tr.bufs (Nat.zero_le _) hi fun j hj hh => hw j hj hh.2).symm
   ·obtain ⟨g1, β, s⟩ := st
    rw [q1, q2]
    exact ⟨g1, β, ((s.sub fun t x hx => atrim_look hx).sub fun t x hx => noPlaces_look hx).same rfl ⟨rfl, rfl⟩⟩
end
end Go.Abs
