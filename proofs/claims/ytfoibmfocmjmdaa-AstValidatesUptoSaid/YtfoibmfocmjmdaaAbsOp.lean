/- One operation, done: the frame's slots and the heap read as the abstract machine says. -/
import Derived.Test.YtfoibmfocmjmdaaAbsVal2
set_option linter.unusedVariables false
set_option linter.unusedSimpArgs false
set_option linter.all false
set_option linter.deprecated false
namespace Go.Abs

section
variable {P : Program} {W W' W0 : World} {g g' g0 : Gh} {A A' A0 : AHeap} {N nt : Nat} {β : Nat → Nat} {env env' : AEnv} {a : Act}

theorem parts_vals (he : ERel W g A N nt β env a) {parts : Array (Nat × Operand)} {ps : List (Nat × AV)} (h : aparts env parts.toList = some ps) :
    ps.length = (parts.map fun (i, x) => (i, a.eval x)).toList.length ∧
    ∀ (i : Nat) (p : Nat × AV) (q : Nat × Value), ps[i]? = some p → (parts.map fun (i, x) => (i, a.eval x)).toList[i]? = some q → p.1 = q.1 ∧ RelV W g A p.2 q.2 := by
  obtain ⟨h1, h2⟩ := aparts_rel he h
  refine ⟨by simpa using h1, fun i p q e1 e2 => ?_⟩
  rw [Array.toList_map, List.getElem?_map, Option.map_eq_some_iff] at e2
  obtain ⟨q', e2, rfl⟩ := e2
  obtain ⟨r1, r2⟩ := h2 i p q' e1 e2
  exact ⟨r1, r2⟩

theorem args_vals (he : ERel W g A N nt β env a) {args : Array Operand} {xs : List AV} (h : aevals env args.toList = some xs) : RelL W g A xs (args.map a.eval).toList := by
  have := aevals_rel he h
  simpa using this

theorem asInt_rel {k : IntKind} {n : Int} {v : Value} (h : RelV W g A (.d (.int k n)) v) : v = .int k n := h.dInt

theorem idx_of_agg {P : Program} {t : TypeId} {len sz : Nat} {agg : Bool} (ha : arrT P t = some (len, sz, agg)) {cs : List AV} {vs : Array Value} (hr : RelL W g A cs vs.toList) {k : IntKind} {n : Int} (h0 : 0 ≤ n) (h1 : n < len) {x : AV}
    (h : apart cs (n.toNat * sz) sz agg = some x) : ∃ v, (Instr.index t (.agg vs) (.int k n)).run P W = .ok v W ∧ RelV W g A x v := by
  obtain ⟨e, hu, hk⟩ := arrT_some ha
  obtain ⟨v, hv, hrv⟩ := part_rel (P := P) hk hr h W
  exact ⟨v, by simp [Instr.index, asIntOf, run_underlying hu, h0, h1, run_sizeOf hk, hv], hrv⟩

theorem plainS_rel {x : AV} {v : Value} (h : RelV W g A x v) : RelV W g A x.plainS v := by
  cases h with
  | full rows a hd => exact .d _ _ hd
  | nilS => exact .d _ _ (.empty none 0)
  | d x v hd => exact .d _ _ hd
  | own tok len a cap ht hh => exact .own tok len a cap ht hh
  | nilP => exact .nilP
  | ptr id off h => exact .ptr id off h
  | sptr ds b o val h1 h2 => exact .sptr ds b o val h1 h2
  | eptr tok len i off p ht hh => exact .eptr tok len i off p ht hh
  | nilF => exact .nilF
  | nilM => exact .nilM
  | func fn f c vs us h1 h2 r1 r2 => exact .func fn f c vs us h1 h2 r1 r2
  | mapr id h => exact .mapr id h
  | agg cs vs h r => exact .agg cs vs h r
  | tuple cs vs h r => exact .tuple cs vs h r

/-- is it a call of a function value? -/
def Op.calls : Op → Bool
  | .call cl => match cl.callee with
    | .value _ => true
    | _ => false
  | _ => false

set_option maxHeartbeats 1000000 in
theorem aval1_rel {c : ACtx} {call : FuncId → AFun} (hw : WRel W g A) (he : ERel W g A N nt β env a) {o : Oper} (hnc : Op.calls o.op = false) {xr : AV} (h : aval1 c call env A o.op = some (xr, A')) : Outs c.P W g A A' xr (execOp a.eval o) := by
  generalize hop : o.op = op at h hnc
  unfold execOp
  rw [hop]
  generalize o.type = ty
  simp only
  cases op
  case makeMap t r =>
    cases r with
    | some r => simp only [aval1] at h; cases h
    | none =>
    simp only [aval1] at h
    split at h
    case h_2 => cases h
    cases h
    obtain ⟨w1, w2⟩ := hw.pushObj (.map []) (.map #[] 0) trivial (fun g' A' e => ⟨#[], 0, heap_alloc_new W _, rfl, fun i k x m h => by simp at h⟩)
    refine .semW (s := Instr.makeMap t none) (v := .map (some W.heap.size)) rfl ?_ w1 w2
    have := RelV.mapr (W := W.alloc (.map #[] 0)) (g := g.newObj A.objs.length W.heap.size) (A := { A with objs := A.objs ++ [.map []] }) A.objs.length (by simp)
    simpa [Gh.newObj] using this
  case slice t x lo hi mx =>
    cases mx with
    | some r => simp only [aval1] at h; cases h
    | none =>
    simp only [aval1] at h
    have fin : (A' = A ∧ ∃ r, (Instr.sliceAt t (a.eval x) (lo.map a.eval) (hi.map a.eval) none).run c.P W = .ok r W ∧ RelV W g A xr r) →
        Outs c.P W g A A' xr (do Pure.pure (.value (← Instr.sliceAt t (a.eval x) (lo.map a.eval) (hi.map a.eval) none))) := fun hh => by
      obtain ⟨rfl, r, hr, hv⟩ := hh
      exact .sem hw hr hv
    cases hx : aeval env x with
    | none => rw [hx] at h; simp at h
    | some y =>
    rw [hx, Option.map_some] at h
    cases lo with
    | none =>
      cases hi with
      | none => exact fin (sliceAt_rel (P := c.P) hw (t := t) (plainS_rel (aeval_rel he hx)) (.inl ⟨rfl, rfl⟩) (.inl ⟨rfl, rfl⟩) h)
      | some r =>
        cases hr : aeval env r with
        | none => simp [hr] at h
        | some q =>
          simp only [Option.map_some, hr] at h
          exact fin (sliceAt_rel (P := c.P) hw (t := t) (plainS_rel (aeval_rel he hx)) (.inl ⟨rfl, rfl⟩) (.inr ⟨q, a.eval r, rfl, rfl, aeval_rel he hr⟩) h)
    | some l =>
      cases hl : aeval env l with
      | none => cases hi <;> simp [hl] at h
      | some p =>
        cases hi with
        | none =>
          simp only [Option.map_some, hl] at h
          exact fin (sliceAt_rel (P := c.P) hw (t := t) (plainS_rel (aeval_rel he hx)) (.inr ⟨p, a.eval l, rfl, rfl, aeval_rel he hl⟩) (.inl ⟨rfl, rfl⟩) h)
        | some r =>
          cases hr : aeval env r with
          | none => simp [hr, hl] at h
          | some q =>
            simp only [Option.map_some, hl, hr] at h
            exfalso
            split at h <;> simp_all
  all_goals simp only [aval1] at h
  all_goals try (cases h; done)
  all_goals try simp only []
  case move x =>
    rw [Option.map_eq_some_iff] at h
    obtain ⟨y, hy, h⟩ := h
    cases h
    exact .val hw rfl (aeval_rel he hy)
  case assign x =>
    rw [Option.map_eq_some_iff] at h
    obtain ⟨y, hy, h⟩ := h
    cases h
    exact .val hw rfl (aeval_rel he hy)
  case pick cnd p q =>
    split at h
    case h_2 => cases h
    rename_i t va vb h1 h2 h3
    cases h
    have e1 := (aeval_rel he h1).dBool
    refine .val hw (v := if t then a.eval p else a.eval q) ?_ ?_
    · simp [e1, asBool]
    · cases t
      · simpa using aeval_rel he h3
      · simpa using aeval_rel he h2
  case build t parts =>
    split at h
    case h_2 => cases h
    rename_i z fs ps hz hfs hps
    rw [Option.map_eq_some_iff] at h
    obtain ⟨cs, hc, h⟩ := h
    cases h
    obtain ⟨h1, h2⟩ := parts_vals he hps
    obtain ⟨v, hr, hv⟩ := build_rel hw hz hfs h1 h2 hc
    exact .sem hw hr hv
  case buildSlice t n parts =>
    split at h
    case h_2 => cases h
    rename_i e ps hel hps
    split at h
    case h_2 => cases h
    rename_i z hz
    split at h
    case isFalse => cases h
    rename_i hcond
    rw [Option.bind_eq_some_iff] at h
    obtain ⟨cs, hc, h⟩ := h
    rw [Option.map_eq_some_iff] at h
    obtain ⟨⟨ds, A1⟩, hd, h⟩ := h
    cases h
    obtain ⟨h1, h2⟩ := parts_vals he hps
    obtain ⟨v, W', g', hr, r1, r2, r3⟩ := buildSlice_rel hw (e := e.1) (sz := e.2) hel hz hcond.1 hcond.2.1 hcond.2.2 h1 h2 hc hd
    exact .semW hr r1 r2 r3
  case nilCheck x =>
    split at h <;> try (cases h; done)
    all_goals
      rename_i hx
      cases h
      have hr := aeval_rel he hx
      obtain ⟨ad, hv⟩ := nilCheck_rel hr (by first | exact .inl ⟨_, _, rfl⟩ | exact .inr (.inl ⟨_, rfl⟩) | exact .inr (.inr ⟨_, _, _, _, rfl⟩))
      exact .val hw (v := a.eval x) (by simp [hv]) hr
  case binOp op t x y k =>
    split at h
    case h_2 => cases h
    rename_i p q hp hq
    rw [Option.map_eq_some_iff] at h
    obtain ⟨z, hz, h⟩ := h
    cases h
    obtain ⟨h1, r, h2, h3⟩ := bin_rel (aeval_rel he hp) (aeval_rel he hq) hz x y
    exact .sem hw (s := do eqGuard op t x y (a.eval x) (a.eval y); binOp op t (a.eval x) (a.eval y)) (by simp [h1, h2]) h3
  case unOp op t x =>
    simp only [Option.bind_eq_some_iff, Option.map_eq_some_iff] at h
    obtain ⟨p, hp, z, hz, h⟩ := h
    cases h
    obtain ⟨r, h2, h3⟩ := unary_rel (P := c.P) hw (aeval_rel he hp) hz
    exact .sem hw h2 h3
  case convert s t x =>
    simp only [Option.bind_eq_some_iff, Option.map_eq_some_iff] at h
    obtain ⟨p, hp, z, hz, h⟩ := h
    cases h
    obtain ⟨r, h2, h3⟩ := conv_rel (aeval_rel he hp) hz
    exact .sem hw h2 h3
  case makeFunc fn first captured =>
    split at h
    case h_2 => cases h
    rename_i p q hp hq
    cases h
    have r1 := args_vals he hp
    have r2 := args_vals he hq
    refine .sem hw (s := Instr.makeFunc fn (first.map a.eval) (captured.map a.eval)) (v := .func fn (first.map a.eval) (captured.map a.eval)) rfl ?_
    have := RelV.func (W := W) (g := g) (A := A) fn p q _ _ r1.1 r2.1 r1.2 r2.2
    simpa only [Array.toArray_toList] using this
  case field t x i =>
    split at h
    case h_2 => cases h
    rename_i cs off n agg hx hf
    rw [Option.map_eq_some_iff] at h
    obtain ⟨y, hy, h⟩ := h
    cases h
    have hr := aeval_rel he hx
    obtain ⟨fs, f, hu, hfi, ho, hk⟩ := fieldT_some hf
    generalize hv : a.eval x = v at hr
    cases hr with
    | agg _ vs hl r =>
    obtain ⟨w, hw1, hw2⟩ := part_rel (P := c.P) hk (vs := vs.toArray) (show RelL W g A cs vs.toArray.toList from ⟨by simpa using hl, by simpa using r⟩) hy W
    rw [← ho] at hw1
    refine .sem hw (s := Instr.field t (Value.agg vs.toArray) i) (v := w) ?_ hw2
    simp [Instr.field, run_underlying hu, hfi, asAgg, hw1]
  case index t x i =>
    split at h
    · rename_i s k n hx hi
      split at h
      case isFalse => cases h
      rename_i hc
      rw [Option.map_eq_some_iff] at h
      obtain ⟨b, hb, h⟩ := h
      cases h
      obtain ⟨bs, hv, rfl⟩ := (aeval_rel he hx).dStr
      have hi' := (aeval_rel he hi).dInt
      have hu := strT_true hc.1
      have hget : bs[n.toNat]? = some b := by
        have : bs[n.toNat]? = bs.data[n.toNat]? := rfl
        rw [this, ← Array.getElem?_toList]; exact hb
      rw [hv, hi']
      exact .sem hw (s := Instr.index t (.string bs) (.int k n)) (by simp [Instr.index, asIntOf, run_underlying hu, hc.2, hget] <;> rfl) (.int _ _)
    · rename_i cs k n hx hi
      split at h
      case h_2 => cases h
      rename_i len sz agg ha
      split at h
      case isFalse => cases h
      rename_i hc
      rw [Option.map_eq_some_iff] at h
      obtain ⟨y, hy, h⟩ := h
      cases h
      have hr := aeval_rel he hx
      have hi' := (aeval_rel he hi).dInt
      generalize hv : a.eval x = v at hr
      cases hr with
      | agg _ vs hl r =>
      obtain ⟨w, hw1, hw2⟩ := idx_of_agg (P := c.P) ha (vs := vs.toArray) (show RelL W g A cs vs.toArray.toList from ⟨by simpa using hl, by simpa using r⟩) (k := k) hc.1 hc.2 hy
      rw [hi']
      exact .sem hw hw1 hw2
    · cases h
  case lookup t m k ok =>
    split at h
    case h_2 => cases h
    rename_i p q hp hq
    rw [Option.map_eq_some_iff] at h
    obtain ⟨y, hy, h⟩ := h
    cases h
    obtain ⟨v, h1, h2⟩ := lookup_rel hw (aeval_rel he hp) (aeval_rel he hq) hy
    exact .sem hw h1 h2
  case mapUpdate t m k x =>
    split at h
    case h_2 => cases h
    rename_i p q v hp hq hv
    rw [Option.map_eq_some_iff] at h
    obtain ⟨A1, hu, h⟩ := h
    cases h
    obtain ⟨W', h1, h2, h3⟩ := mapUpdate_rel hw (aeval_rel he hp) (aeval_rel he hq) (aeval_rel he hv) hu
    exact ⟨undef, W', g, .inr ⟨by simp [h1], rfl⟩, undef_rel, h2, h3⟩
  case range t x =>
    split at h
    case h_2 => cases h
    rename_i s hs
    split at h
    case isFalse => cases h
    rename_i hst
    cases h
    obtain ⟨b, hv, rfl⟩ := (aeval_rel he hs).dStr
    have hu := strT_true hst
    have hba : (⟨b.data.toList.toArray⟩ : ByteArray) = b := by cases b; simp
    obtain ⟨w1, w2⟩ := hw.pushObj (.iter b.data.toList 0) (.stringIter b 0) trivial (fun g' A' e => by
      show (W.alloc (.stringIter b 0)).heap[W.heap.size]? = _
      rw [hba]
      exact heap_alloc_new W _)
    rw [hv]
    refine .semW (s := Instr.range t (.string b)) (v := .pointer (some ⟨W.heap.size, 0, none⟩)) (W' := W.alloc (.stringIter b 0)) (by simp [Instr.range, run_underlying hu]) ?_ w1 w2
    have := RelV.ptr (W := W.alloc (.stringIter b 0)) (g := g.newObj A.objs.length W.heap.size) (A := { A with objs := A.objs ++ [.iter b.data.toList 0] }) A.objs.length 0 (by simp)
    simpa [Gh.newObj] using this
  case next x s =>
    split at h
    case isFalse => cases h
    rename_i hs
    subst hs
    rw [Option.bind_eq_some_iff] at h
    obtain ⟨p, hp, h⟩ := h
    obtain ⟨v, W', h1, h2, h3, h4⟩ := next_rel (P := c.P) (ty := ty) hw (aeval_rel he hp) h
    exact .semW h1 h2 h3 h4
  case extract t i =>
    split at h
    case h_2 => cases h
    rename_i vs hvs
    rw [Option.map_eq_some_iff] at h
    obtain ⟨y, hy, h⟩ := h
    cases h
    have hr := aeval_rel he hvs
    generalize hv : a.eval t = v at hr
    cases hr with
    | tuple _ us hl r =>
    have hlt : i < us.length := by rw [← hl]; exact lt_of_get hy
    refine .sem hw (s := Instr.extract (.tuple us.toArray) i) (v := us[i]) (by simp [Instr.extract, List.getElem?_eq_getElem hlt]) (r i _ _ hy (List.getElem?_eq_getElem hlt))
  case call cl =>
    split at h
    · rename_i f hf
      simp [Op.calls, hf] at hnc
    · rename_i b hb
      rw [Option.bind_eq_some_iff] at h
      obtain ⟨xs, hxs, h⟩ := h
      have hr := builtin_rel (ty := ty) (cn := cl.args.map fun | .const _ => true | _ => false) hw (args_vals he hxs) h
      obtain ⟨v, W', g', h1, h2, h3, h4⟩ := hr
      refine ⟨v, W', g', ?_, h2, h3, h4⟩
      simp only [Sem.run_bind, resolve, hb, Sem.run_pure, Result.andThen_ok, invoke]
      exact h1
    · cases h

end
end Go.Abs
