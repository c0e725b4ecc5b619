/- One operation of the abstract machine is one of the model. -/
import Derived.Test.YtfoibmfocmjmdaaAbsOp2
set_option linter.unusedVariables false
set_option linter.unusedSimpArgs false
set_option linter.all false
set_option linter.deprecated false
namespace Go.Abs

section
variable {P : Program} {W W' W0 : World} {g g' g0 : Gh} {A A' A0 : AHeap} {N nt : Nat} {β : Nat → Nat} {env env' : AEnv} {a : Act} {Q : Exit → Act → World → Prop}

/-- what a call does -/
def CallPost (W : World) (g : Gh) (A : AHeap) (x : AV) (A' : AHeap) (e : Ending) (W' : World) : Prop :=
  ∃ v g', e = .returned v ∧ RelV W' g' A' x v ∧ WRel W' g' A' ∧ Ev W g A W' g' A'

def CallOk (P : Program) (call : FuncId → AFun) : Prop :=
  ∀ (f : FuncId) (xs : List AV) (A : AHeap) (x : AV) (A' : AHeap), call f xs A = some (x, A') →
    (∃ fn, P.funcs[f]? = some fn ∧ (fn.name == "runtime.NumGoroutine") = false ∧ fn.body.isNone = false) ∧
    ∀ (W : World) (g : Gh) (vs : List Value), WRel W g A → RelL W g A xs vs → Calls P f vs.toArray W (CallPost W g A x A')

theorem wp_value {o : Oper} {v : Value} {K : Act → World → Prop} (h : (execOp a.eval o).run P W = .ok (.value v) W') (hk : K (a.put o.dst v) W') : o.wp P a W K Q := by
  unfold Oper.wp
  rw [h]
  exact hk

theorem wp_skip {o : Oper} {K : Act → World → Prop} (h : (execOp a.eval o).run P W = .ok .skip W') (hk : K (a.put o.dst undef) W') : o.wp P a W K Q := by
  unfold Oper.wp
  rw [h]
  exact hk

theorem wp_outs {o : Oper} {x : AV} (s : StG W0 g0 A0 nt env A a W g β) (h : Outs P W g A A' x (execOp a.eval o)) (hl : alay nt (o.dst.map (·, .v x)) env = some env') :
    o.wp P a W (St W0 g0 A0 nt env' A') Q := by
  obtain ⟨v, W', g', h1, h2, h3, h4⟩ := h
  rcases h1 with h1 | ⟨h1, rfl⟩
  · exact wp_value h1 ⟨g', β, s.value h2 h3 h4 hl⟩
  · exact wp_skip h1 ⟨g', β, s.value h2 h3 h4 hl⟩

theorem RelL.append {xs ys : List AV} {us vs : List Value} (h1 : RelL W g A xs us) (h2 : RelL W g A ys vs) : RelL W g A (xs ++ ys) (us ++ vs) := by
  refine ⟨by simp [h1.1, h2.1], fun i x v e1 e2 => ?_⟩
  by_cases hi : i < xs.length
  · rw [List.getElem?_append_left hi] at e1
    rw [List.getElem?_append_left (by rw [← h1.1]; exact hi)] at e2
    exact h1.2 i x v e1 e2
  · rw [List.getElem?_append_right (by omega)] at e1
    rw [List.getElem?_append_right (by rw [← h1.1]; omega), ← h1.1] at e2
    exact h2.2 _ x v e1 e2

theorem wp_call {c : ACtx} {call : FuncId → AFun} (hc : CallOk c.P call) {o : Oper} {cl : Call} (ho : o.op = .call cl) {gop : Operand} (hcal : cl.callee = .value gop) (s : StG W0 g0 A0 nt env A a W g β) {f : FuncId} {first captured args : List AV}
    (hg : aeval env gop = some (.func (.func f) first captured)) (ha : aevals env cl.args.toList = some args) {x : AV} (h : call f (first ++ args ++ captured) A = some (x, A')) (hl : alay nt (o.dst.map (·, .v x)) env = some env') :
    o.wp c.P a W (St W0 g0 A0 nt env' A') Q := by
  obtain ⟨⟨fn, hf, hnm, hbd⟩, hcalls⟩ := hc f _ A x A' h
  have hgr := aeval_rel s.e hg
  have har := args_vals s.e ha
  generalize hv : a.eval gop = v at hgr
  cases hgr with
  | func _ _ _ vs us h1 h2 r1 r2 =>
  have hrel : RelL W g A (first ++ args ++ captured) (vs ++ (cl.args.map a.eval).toList ++ us) := ((show RelL W g A first vs from ⟨h1, r1⟩).append har).append ⟨h2, r2⟩
  have hC := hcalls W g _ s.w hrel
  have hrun : (execOp a.eval o).run c.P W = .ok (.enter f (vs ++ (cl.args.map a.eval).toList ++ us).toArray) W := by
    unfold execOp
    rw [ho]
    simp only [Sem.run_bind, resolve, hcal, hv, Deferred.ofValue, Sem.run_pure, Result.andThen_ok, invoke, callFunc, run_program, hf, hnm, hbd, Bool.false_eq_true, if_false]
    congr 2
    simp
  unfold Oper.wp
  rw [hrun, Oper.upon_enter]
  refine Calls.mono hC fun e W' hp => ?_
  obtain ⟨v, g', rfl, p1, p2, p3⟩ := hp
  exact ⟨g', β, s.value p1 p2 p3 hl⟩

theorem esc_box {c : ACtx} {f : FuncId} {o : Oper} {d : Nat} (hd : o.dst = some d) (s : StG W0 g0 A0 nt env A a W g β) {cs : List AV} {vs : Array Value} {T : TypeId} (r : RelL W g A cs vs.toList)
    (hrun : (execOp a.eval o).run P W = .ok (.value (.pointer (some ⟨W.heap.size, 0, none⟩))) (W.alloc (.cells vs T))) {w : Option (Nat × Slot)}
    (h : (if (c.esc f).contains d then some (some (d, Slot.v (.ptr A.objs.length 0)), { A with objs := A.objs ++ [AObj.cells cs] })
        else if noPlaceOf d env then some (some (d, .box cs), A) else none) = some (w, A')) (hl : alay nt w env = some env') : o.wp P a W (St W0 g0 A0 nt env' A') Q := by
  split at h
  · cases h
    obtain ⟨w1, w2⟩ := s.w.pushObj (.cells cs) (.cells vs T) rfl (fun g' A' e => ⟨vs, T, heap_alloc_new W _, e.relL r⟩)
    refine wp_value hrun ⟨_, β, s.value (x := .ptr A.objs.length 0) ?_ w1 w2 (by rw [hd]; exact hl)⟩
    have := RelV.ptr (W := W.alloc (.cells vs T)) (g := g.newObj A.objs.length W.heap.size) (A := { A with objs := A.objs ++ [.cells cs] }) A.objs.length 0 (by simp)
    simpa [Gh.newObj] using this
  · split at h
    case isFalse => cases h
    rename_i hn
    cases h
    simp only [alay] at hl
    split at hl
    case isFalse => cases hl
    rename_i hdn
    cases hl
    obtain ⟨β', s'⟩ := s.newBox (T := T) hdn hn r
    refine wp_value hrun ⟨g, β', ?_⟩
    rw [hd]
    exact s'

set_option maxHeartbeats 1000000 in
theorem aop_wp {c : ACtx} {call : FuncId → AFun} (hc : CallOk c.P call) {f : FuncId} {o : Oper} (s : StG W0 g0 A0 nt env A a W g β) (h : aop c call f nt o env A = some (env', A')) : o.wp c.P a W (St W0 g0 A0 nt env' A') Q := by
  unfold aop at h
  rw [Option.bind_eq_some_iff] at h
  obtain ⟨⟨w, A1⟩, he, h⟩ := h
  rw [Option.map_eq_some_iff] at h
  obtain ⟨env1, hl, h⟩ := h
  have h1 : env1 = env' := by cases h; rfl
  have h2 : A1 = A' := by cases h; rfl
  rw [h1] at hl
  rw [h2] at he
  clear h h1 h2
  simp only at hl
  -- operations that lay their own slot
  have slot : ∀ {op : Op}, o.op = op → (aslot c call env A op).map (fun r => (o.dst.map (·, r.1), r.2)) = some (w, A') → o.wp c.P a W (St W0 g0 A0 nt env' A') Q := by
    intro op hop h
    rw [Option.map_eq_some_iff] at h
    obtain ⟨⟨sl, A2⟩, hs, h⟩ := h
    have h1 : w = o.dst.map (·, sl) := by cases h; rfl
    have h2 : A2 = A' := by cases h; rfl
    rw [h1] at hl
    rw [h2] at hs
    clear h h1 h2
    have val : (aval1 c call env A op).map (fun r => (Slot.v r.1, r.2)) = some (sl, A') → o.wp c.P a W (St W0 g0 A0 nt env' A') Q := by
      intro h
      rw [Option.map_eq_some_iff] at h
      obtain ⟨⟨x, A3⟩, hx, h⟩ := h
      have h1 : sl = .v x := by cases h; rfl
      have h2 : A3 = A' := by cases h; rfl
      rw [h1] at hl
      rw [h2] at hx
      clear h h1 h2
      by_cases hcs : Op.calls op = true
      · cases op <;> simp only [Op.calls] at hcs <;> try (cases hcs; done)
        rename_i cl
        simp only [aval1] at hx
        split at hx
        · rename_i gop hcal
          split at hx
          · rename_i ff first captured args hg ha
            exact wp_call hc hop hcal s hg ha hx hl
          · cases hx
        · rename_i b hb; simp [hb] at hcs
        · cases hx
      · exact wp_outs s (aval1_rel s.w s.e (by rw [hop]; simpa using hcs) (by rw [hop]; exact hx)) hl
    cases op
    case load t x =>
      simp only [aslot] at hs
      split at hs
      case h_2 => cases hs
      rename_i n agg hk
      split at hs
      · rename_i q off hp
        rw [Option.bind_eq_some_iff] at hs
        obtain ⟨cs, hcs, hs⟩ := hs
        rw [Option.map_eq_some_iff] at hs
        obtain ⟨y, hy, hs⟩ := hs
        cases hs
        have hev := aplace_rel s.e hp
        obtain ⟨vs, T, hb, hr, _⟩ := abox_rel s.e hcs
        obtain ⟨v, hv, hrv⟩ := run_loadVar (P := c.P) hk (hr.cellsAt hb) hy
        rw [Nat.zero_add] at hv
        refine wp_value (W' := W) (v := v) ?_ ⟨g, β, s.value hrv s.w (.refl _ _ _) hl⟩
        unfold execOp
        rw [hop]
        simp [Instr.loadAt, hev, Instr.sureAddr, hv]
      · rw [Option.bind_eq_some_iff] at hs
        obtain ⟨p, hp, hs⟩ := hs
        rw [Option.map_eq_some_iff] at hs
        obtain ⟨y, hy, hs⟩ := hs
        cases hs
        obtain ⟨ad, v, hev, hv, hrv⟩ := aload_rel (P := c.P) s.w hk (aeval_rel s.e hp) hy
        refine wp_value (W' := W) (v := v) ?_ ⟨g, β, s.value hrv s.w (.refl _ _ _) hl⟩
        unfold execOp
        rw [hop]
        simp [Instr.loadAt, hev, Instr.sureAddr, hv]
    case fieldAddr t x i =>
      simp only [aslot] at hs
      split at hs
      case h_2 => cases hs
      rename_i off n agg hf
      split at hs
      · cases hs
      rename_i hn
      split at hs
      · rename_i q o' hp
        cases hs
        have hev := aplace_rel s.e hp
        have hr := run_fieldAt (P := c.P) (W := W) hf hn ⟨β q, o', none⟩
        rw [addr_add] at hr
        refine wp_value (W' := W) ?_ ⟨g, β, s.place hl⟩
        unfold execOp
        rw [hop]
        simp [hev, hr]
      · rename_i hnp
        have key : ∀ {p y : AV}, aeval env x = some p → (match some p with
            | some (.ptr id o') => some (AV.ptr id (o' + off))
            | some (.sptr ds) => some (.sptr (ds.drop off))
            | some (.eptr tok len j o') => some (.eptr tok len j (o' + off))
            | _ => none) = some y → sl = .v y → A' = A → o.wp c.P a W (St W0 g0 A0 nt env' A') Q := by
          intro p y hp hy hsl hA
          subst hsl
          subst hA
          obtain ⟨v, hv, hrv⟩ := field_rel (P := c.P) hf hn (aeval_rel s.e hp) hy
          refine wp_value (W' := W) (v := v) ?_ ⟨g, β, s.value hrv s.w (.refl _ _ _) hl⟩
          unfold execOp
          rw [hop]
          simp [hv]
        split at hs
        · rename_i id o' hp; cases hs; exact key hp rfl rfl rfl
        · rename_i ds hp; cases hs; exact key hp rfl rfl rfl
        · rename_i tok len j o' hp; cases hs; exact key hp rfl rfl rfl
        · cases hs
    case indexAddr t x i =>
      simp only [aslot] at hs
      split at hs
      case h_2 => cases hs
      rename_i k n hi
      have hiv := (aeval_rel s.e hi).dInt
      split at hs
      · rename_i len sz agg ha
        split at hs
        case h_2 => cases hs
        rename_i q o' hp
        split at hs
        case isFalse => cases hs
        rename_i hcnd
        cases hs
        have hev := aplace_rel s.e hp
        have hr := run_indexAt_arr (P := c.P) (W := W) ha ⟨β q, o', none⟩ k hcnd.1 hcnd.2
        rw [addr_add] at hr
        refine wp_value (W' := W) ?_ ⟨g, β, s.place hl⟩
        unfold execOp
        rw [hop]
        simp [hev, hiv, hr]
      · split at hs
        case h_2 => cases hs
        rename_i e v hel hv
        rw [Option.map_eq_some_iff] at hs
        obtain ⟨y, hy, hs⟩ := hs
        cases hs
        obtain ⟨r, hr, hrr⟩ := index_rel (P := c.P) s.w (e := e.1) hel (aeval_rel s.e hv) k hy
        refine wp_value (W' := W) (v := r) ?_ ⟨g, β, s.value hrr s.w (.refl _ _ _) hl⟩
        unfold execOp
        rw [hop]
        simp [hiv, hr]
    all_goals exact val hs
  cases hop : o.op
  case alloc t =>
    simp only [aeff, hop] at he
    split at he
    case h_2 => cases he
    rename_i z d hz hd
    obtain ⟨zv, hzr, hza⟩ := run_zeroValue hz W
    refine esc_box (c := c) (f := f) hd s (vs := zv.cells) (T := t) (cells_rel (aval_rel hza)) ?_ he hl
    unfold execOp
    rw [hop]
    simp [Instr.alloc, hzr, newVar, newRow]
  case box t x =>
    simp only [aeff, hop] at he
    split at he
    case h_2 => cases he
    rename_i v d hv hd
    refine esc_box (c := c) (f := f) hd s (vs := (a.eval x).cells) (T := t) (cells_rel (aeval_rel s.e hv)) ?_ he hl
    unfold execOp
    rw [hop]
    simp [Instr.box, newVar, newRow]
  case store t x y =>
    simp only [aeff, hop] at he
    split at he
    · cases he
    rename_i hd
    rw [Option.bind_eq_some_iff] at he
    obtain ⟨v, hv, he⟩ := he
    split at he
    case isFalse => cases he
    rename_i hcnd
    obtain ⟨hkk, hone⟩ := hcnd
    rw [Option.map_eq_some_iff] at hkk
    obtain ⟨⟨n, agg⟩, hk, hn⟩ := hkk
    simp only at hn
    have hvr := aeval_rel s.e hv
    have hcr := cells_rel hvr
    have hsz : (a.eval y).cells.size = n := by have := hcr.1; simp at this; omega
    split at he
    · rename_i q off hp
      rw [Option.bind_eq_some_iff] at he
      obtain ⟨cs, hcs, he⟩ := he
      rw [Option.map_eq_some_iff] at he
      obtain ⟨cs', hsp, he⟩ := he
      cases he
      have hev := aplace_rel s.e hp
      obtain ⟨vs, T, hb, hr, ho, hS, hN, hlk⟩ := abox_rel s.e hcs
      have hgt := asplice_get hsp
      have hl1 := hr.1
      simp only [Array.length_toList] at hl1
      have hrun := run_storeVar_at (W := W) hk (o := off) hb hsz (by omega) (oneCells_rel hcr hone)
      have hnr := spliceV_rel hr hcr hsp
      rw [Array.length_toList, hsz] at hnr
      simp only [alay] at hl
      split at hl
      case isFalse => cases hl
      rename_i hq
      cases hl
      refine wp_skip (W' := W.setRow (β q) (vs.toList.take off ++ (a.eval y).cells.toList ++ vs.toList.drop (off + n)).toArray) ?_ ⟨g, β, ?_⟩
      · unfold execOp
        rw [hop]
        simp only [Instr.storeAt, hev, Instr.sureAddr, Sem.run_bind, Sem.run_pure, Result.andThen_ok, hrun]
      · rw [hd]
        exact s.setBox hlk hb (by simpa using hnr) hq
    · rw [Option.bind_eq_some_iff] at he
      obtain ⟨p, hp, he⟩ := he
      rw [Option.map_eq_some_iff] at he
      obtain ⟨A2, hst, he⟩ := he
      cases he
      cases hl
      obtain ⟨ad, W', g', hev, hrun, w1, w2⟩ := astore_rel (P := c.P) s.w hk (aeval_rel s.e hp) hvr hn.symm hone hst
      refine wp_skip (W' := W') ?_ ⟨g', β, ?_⟩
      · unfold execOp
        rw [hop]
        simp only [Instr.storeAt, hev, Instr.sureAddr, Sem.run_bind, Sem.run_pure, Result.andThen_ok, hrun]
      · rw [hd]
        exact s.value (dst := none) undef_rel w1 w2 rfl
  all_goals
    simp only [aeff, hop] at he
    exact slot hop he

end
end Go.Abs
