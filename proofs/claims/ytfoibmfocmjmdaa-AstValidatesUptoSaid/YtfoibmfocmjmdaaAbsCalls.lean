/- Functions: what a call of the abstract machine answers, the model's call answers. -/
import Derived.Test.YtfoibmfocmjmdaaAbsSound
set_option linter.unusedVariables false
set_option linter.unusedSimpArgs false
set_option linter.all false
set_option linter.deprecated false
namespace Go.Abs

section
variable {P : Program} {W W' W0 : World} {g g' g0 : Gh} {A A' A0 : AHeap} {nt : Nat} {β : Nat → Nat} {env env' : AEnv} {a : Act} {c : ACtx} {call : FuncId → AFun} {f : FuncId}

/-! results -/
def resM (tmps : Array Value) : ResultVar → Sem Value
  | .tmp t => Pure.pure (tmps.getD t undef)
  | .cell a t => do loadVar t (← asAddr (tmps.getD a undef))

theorem aresult_rel (s : StG W0 g0 A0 nt env A a W g β) {r : ResultVar} {x : AV} (h : aresult c env A r = some x) : ∃ v, (resM a.tmps r).run c.P W = .ok v W ∧ RelV W g A x v := by
  cases r with
  | tmp t =>
    have h' : aeval env (.tmp t) = some x := h
    exact ⟨_, rfl, aeval_rel s.e h'⟩
  | cell t T =>
    simp only [aresult] at h
    split at h
    case h_2 => cases h
    rename_i n agg hk
    split at h
    · rename_i q off hp
      rw [Option.bind_eq_some_iff] at h
      obtain ⟨cs, hcs, h⟩ := h
      have hev := aplace_rel s.e hp
      obtain ⟨vs, T', hb, hr, _⟩ := abox_rel s.e hcs
      obtain ⟨v, hv, hrv⟩ := run_loadVar (P := c.P) hk (hr.cellsAt hb) h
      rw [Nat.zero_add] at hv
      simp only [Act.eval] at hev
      exact ⟨v, by simp only [resM, hev, asAddr, Sem.run_bind, Sem.run_pure, Result.andThen_ok, hv], hrv⟩
    · rw [Option.bind_eq_some_iff] at h
      obtain ⟨p, hp, h⟩ := h
      obtain ⟨ad, v, hev, hv, hrv⟩ := aload_rel (P := c.P) s.w hk (aeval_rel s.e hp) h
      simp only [Act.eval] at hev
      exact ⟨v, by simp only [resM, hev, asAddr, Sem.run_bind, Sem.run_pure, Result.andThen_ok, hv], hrv⟩

theorem aresultL_rel (s : StG W0 g0 A0 nt env A a W g β) : ∀ {rs : List ResultVar} {xs : List AV}, aresultL c env A rs = some xs → ∃ vs : List Value, (rs.mapM (resM a.tmps)).run c.P W = .ok vs W ∧ RelL W g A xs vs
  | [], xs, h => by cases h; exact ⟨[], by simp, rfl, fun i x v h => by simp at h⟩
  | r :: rs, xs, h => by
    simp only [aresultL, Option.bind_eq_some_iff, Option.map_eq_some_iff] at h
    obtain ⟨x, hx, ys, hy, rfl⟩ := h
    obtain ⟨v, hv, hrv⟩ := aresult_rel s hx
    obtain ⟨vs, hvs, hrvs⟩ := aresultL_rel s hy
    refine ⟨v :: vs, ?_, by simp [hrvs.1], fun i z u h1 h2 => ?_⟩
    · rw [List.mapM_cons]
      simp only [Sem.run_bind, hv, Result.andThen_ok, hvs, Sem.run_pure]
    · cases i with
      | zero => simp at h1 h2; subst h1; subst h2; exact hrv
      | succ i => simp at h1 h2; exact hrvs.2 i z u h1 h2

theorem results_eq (fn : Func) (tmps : Array Value) : results fn tmps = (do
    let vs ← fn.results.mapM (resM tmps)
    Pure.pure (if h : vs.size = 1 then vs[0] else .tuple vs)) := by
  unfold results
  congr 1

theorem aresults_rel (s : StG W0 g0 A0 nt env A a W g β) {fn : Func} {x : AV} (h : aresults c env A fn.results.toList = some x) : ∃ v, (results fn a.tmps).run c.P W = .ok v W ∧ RelV W g A x v := by
  unfold aresults at h
  rw [Option.map_eq_some_iff] at h
  obtain ⟨xs, hxs, h⟩ := h
  obtain ⟨vs, hv, hr⟩ := aresultL_rel s hxs
  have hrun : (results fn a.tmps).run c.P W = .ok (if h : vs.toArray.size = 1 then vs.toArray[0] else .tuple vs.toArray) W := by
    rw [results_eq, Array.mapM_eq_mapM_toList]
    simp [hv]
  refine ⟨_, hrun, ?_⟩
  split at h
  · rename_i y
    subst h
    match vs, hr with
    | [v], hr => simpa using hr.2 0 _ v rfl rfl
    | [], hr => have := hr.1; simp at this
    | _ :: _ :: _, hr => have := hr.1; simp at this
  · rename_i hne
    subst h
    have hl : vs.toArray.size ≠ 1 := by
      intro h1
      have : xs.length = 1 := by rw [hr.1]; simpa using h1
      match xs, this with
      | [y], _ => exact hne y rfl
    rw [dif_neg hl]
    exact .tuple _ _ hr.1 hr.2

/-! what nobody names is forgotten -/
theorem noptr1_rel {x : AV} {v : Value} (h : RelV W g A x v) (hx : x.noptr1 = true) (hS : g'.S = g.S) : RelV W g' A' x v := by
  cases h with
  | d x v hd => exact .d _ _ (hS ▸ hd)
  | nilS => exact .nilS
  | full rows a hd => exact .full _ _ (hS ▸ hd)
  | nilP => exact .nilP
  | nilF => exact .nilF
  | nilM => exact .nilM
  | _ => cases hx

theorem noptr2_rel {x : AV} {v : Value} (h : RelV W g A x v) (hx : x.noptr2 = true) (hS : g'.S = g.S) : RelV W g' A' x v := by
  cases h with
  | agg cs vs hl r =>
    refine .agg cs vs hl fun i y u h1 h2 => noptr1_rel (r i y u h1 h2) ?_ hS
    simp only [AV.noptr2, List.all_eq_true] at hx
    exact hx y (List.mem_of_getElem? h1)
  | d x v hd => exact noptr1_rel (A := A) (.d _ _ hd) hx hS
  | nilS => exact .nilS
  | full rows a hd => exact noptr1_rel (A := A) (.full _ _ hd) hx hS
  | nilP => exact .nilP
  | nilF => exact .nilF
  | nilM => exact .nilM
  | own => cases hx
  | ptr => cases hx
  | sptr => cases hx
  | eptr => cases hx
  | func => cases hx
  | mapr => cases hx
  | tuple => cases hx

theorem noptr_rel {x : AV} {v : Value} (h : RelV W g A x v) (hx : x.noptr = true) (hS : g'.S = g.S) : RelV W g' A' x v := by
  cases h with
  | tuple cs vs hl r =>
    refine .tuple cs vs hl fun i y u h1 h2 => noptr2_rel (r i y u h1 h2) ?_ hS
    simp only [AV.noptr, List.all_eq_true] at hx
    exact hx y (List.mem_of_getElem? h1)
  | agg cs vs hl r => exact noptr2_rel (.agg cs vs hl r) hx hS
  | d x v hd => exact noptr1_rel (A := A) (.d _ _ hd) hx hS
  | nilS => exact .nilS
  | full rows a hd => exact noptr1_rel (A := A) (.full _ _ hd) hx hS
  | nilP => exact .nilP
  | nilF => exact .nilF
  | nilM => exact .nilM
  | own => cases hx
  | ptr => cases hx
  | sptr => cases hx
  | eptr => cases hx
  | func => cases hx
  | mapr => cases hx

/-- a value that could be named before reads the same when what came later is forgotten -/
theorem relV_cut {x : AV} {v0 : Value} (h0 : RelV W0 g0 A0 x v0) (hS : g'.S = g.S) (hob : ∀ id, id < A0.objs.length → g'.ob id = g.ob id) (ho : A0.objs.length ≤ A'.objs.length)
    (hb : ∀ t, t < A0.bufs.length → t < A'.bufs.length ∧ A'.bufs[t]? = A.bufs[t]? ∧ g'.bf t = g.bf t) : ∀ {v : Value}, RelV W g A x v → RelV W g' A' x v := by
  induction h0 with
  | d x v0 hd => intro v h; exact noptr1_rel h rfl hS
  | nilS => intro v h; exact noptr1_rel h rfl hS
  | full rows a hd => intro v h; exact noptr1_rel h rfl hS
  | nilP => intro v h; exact noptr1_rel h rfl hS
  | nilF => intro v h; exact noptr1_rel h rfl hS
  | nilM => intro v h; exact noptr1_rel h rfl hS
  | own tok len a cap ht _ =>
    intro v h
    cases h with
    | own _ _ a' cap' ht' hh =>
    obtain ⟨b1, b2, b3⟩ := hb tok ht
    exact .own tok len a' cap' b1 fun b hb' => by rw [b3]; exact hh b (by rw [← b2]; exact hb')
  | ptr id off hid =>
    intro v h
    cases h
    rw [← hob id hid]
    exact .ptr id off (Nat.lt_of_lt_of_le hid ho)
  | sptr ds b o val hc hv =>
    intro v h
    cases h with
    | sptr _ b' o' val' hc' hv' => exact .sptr ds b' o' val' (by rw [hS]; exact hc') (by rw [hS]; exact hv')
  | eptr tok len i off p ht _ =>
    intro v h
    cases h with
    | eptr _ _ _ _ p' ht' hh =>
    obtain ⟨b1, b2, b3⟩ := hb tok ht
    exact .eptr tok len i off p' b1 fun b hb' => by rw [b3]; exact hh b (by rw [← b2]; exact hb')
  | func fn first captured vs us h1 h2 r1 r2 ih1 ih2 =>
    intro v h
    cases h with
    | func _ _ _ vs' us' h1' h2' r1' r2' =>
    refine .func fn first captured vs' us' h1' h2' (fun i x v e1 e2 => ?_) (fun i x v e1 e2 => ?_)
    · have hl : i < vs.length := h1 ▸ lt_of_get e1
      exact ih1 i x _ e1 (List.getElem?_eq_getElem hl) (r1' i x v e1 e2)
    · have hl : i < us.length := h2 ▸ lt_of_get e1
      exact ih2 i x _ e1 (List.getElem?_eq_getElem hl) (r2' i x v e1 e2)
  | mapr id hid =>
    intro v h
    cases h
    rw [← hob id hid]
    exact .mapr id (Nat.lt_of_lt_of_le hid ho)
  | agg cs vs hl r ih =>
    intro v h
    cases h with
    | agg _ vs' hl' r' =>
    refine .agg cs vs' hl' fun i x v e1 e2 => ?_
    have hlt : i < vs.length := hl ▸ lt_of_get e1
    exact ih i x _ e1 (List.getElem?_eq_getElem hlt) (r' i x v e1 e2)
  | tuple cs vs hl r ih =>
    intro v h
    cases h with
    | tuple _ vs' hl' r' =>
    refine .tuple cs vs' hl' fun i x v e1 e2 => ?_
    have hlt : i < vs.length := hl ▸ lt_of_get e1
    exact ih i x _ e1 (List.getElem?_eq_getElem hlt) (r' i x v e1 e2)

/-- the owners that stay -/
def Gh.cut (g : Gh) (n m : Nat) (tk : Option Nat) : Gh where
  S := g.S
  ob := g.ob
  bf t := if t = m then (match tk with | some k => g.bf k | none => g.bf t) else g.bf t
  own b := match g.own b with
    | some (.obj id) => if id < n then some (.obj id) else none
    | some (.buf t) => if t < m then some (.buf t) else if tk = some t then some (.buf m) else none
    | none => none

theorem cut_rel (hw0 : WRel W0 g0 A0) (hw : WRel W g A) (e : Ev W0 g0 A0 W g A) (hobj : A.objs.take A0.objs.length = A0.objs) (tk : Option Nat) (bs : List ABuf) (hlen : A0.bufs.length ≤ bs.length) (hbs : ∀ t, t < A0.bufs.length → bs[t]? = A.bufs[t]?)
    (hnew : ∀ t b, A0.bufs.length ≤ t → bs[t]? = some b → t = A0.bufs.length ∧ ∃ k, tk = some k ∧ A0.bufs.length ≤ k ∧ A.bufs[k]? = some b) :
    WRel W (g.cut A0.objs.length A0.bufs.length tk) ⟨A0.objs, bs⟩ ∧ Ev W0 g0 A0 W (g.cut A0.objs.length A0.bufs.length tk) ⟨A0.objs, bs⟩ := by
  have hbf : ∀ t, t < A0.bufs.length → (g.cut A0.objs.length A0.bufs.length tk).bf t = g.bf t := fun t ht => by simp [Gh.cut]; omega
  have hcut : ∀ {x : AV} {v0 v : Value}, RelV W0 g0 A0 x v0 → RelV W g A x v → RelV W (g.cut A0.objs.length A0.bufs.length tk) ⟨A0.objs, bs⟩ x v := fun h0 h =>
    relV_cut (g := g) (g' := g.cut A0.objs.length A0.bufs.length tk) (A := A) (A' := ⟨A0.objs, bs⟩) h0 rfl (fun _ _ => rfl) (Nat.le_refl _) (fun t ht => ⟨Nat.lt_of_lt_of_le ht hlen, hbs t ht, hbf t ht⟩) h
  have hown : ∀ blk o, (g.cut A0.objs.length A0.bufs.length tk).own blk = some o → ∃ o', g.own blk = some o' ∧ ∀ id, o = .obj id → o' = .obj id := by
    intro blk o h
    simp only [Gh.cut] at h
    split at h
    · rename_i id hid
      split at h
      · cases h; exact ⟨_, hid, fun id' h => by cases h; rfl⟩
      · cases h
    · rename_i t ht
      split at h
      · cases h; exact ⟨_, ht, fun id' h => by cases h⟩
      · split at h
        · cases h; exact ⟨_, ht, fun id' h => by cases h⟩
        · cases h
    · cases h
  have hobjs : ∀ (i : Nat) (o : AObj), A0.objs[i]? = some o → A.objs[i]? = some o := by
    intro i o h
    rw [← hobj, List.getElem?_take] at h
    split at h
    · exact h
    · cases h
  refine ⟨⟨fun i o ho => ?_, fun t b hb => ?_, fun blk o ho => ?_, fun b o hs => hw.stab b o hs, fun blk i o ho hs => ?_⟩, ⟨⟨e.size, e.stab, e.ob, Nat.le_refl _, fun t b hb => ?_, e.rest⟩, fun b hb ho => ?_⟩⟩
  · obtain ⟨o1, o2⟩ := hw0.obj i o ho
    obtain ⟨k1, k2⟩ := hw.obj i o (hobjs i o ho)
    refine ⟨by simp [Gh.cut, k1, lt_of_get ho], ?_⟩
    cases o with
    | cells cs =>
      obtain ⟨vs0, T0, _, r0⟩ := o2
      obtain ⟨vs, T, hb, r⟩ := k2
      refine ⟨vs, T, hb, r.1, fun j x v e1 e2 => ?_⟩
      have hlt : j < vs0.toList.length := r0.1 ▸ lt_of_get e1
      exact hcut (r0.2 j x _ e1 (List.getElem?_eq_getElem hlt)) (r.2 j x v e1 e2)
    | map es =>
      obtain ⟨ms0, c0, _, z0, r0⟩ := o2
      obtain ⟨ms, cl, hb, z, r⟩ := k2
      refine ⟨ms, cl, hb, z, fun j k x m e1 e2 => ?_⟩
      have hlt : j < ms0.size := by rw [z0]; exact lt_of_get e1
      obtain ⟨q1, q2⟩ := r j k x m e1 e2
      exact ⟨q1, hcut (r0 j k x _ e1 (Array.getElem?_eq_getElem hlt)).2 q2⟩
    | iter s pos => exact k2
  · rcases Nat.lt_or_ge t A0.bufs.length with ht | ht
    · simp only at hb
      rw [hbs t ht] at hb
      obtain ⟨blk, cap, vs, h1, h2, h3⟩ := (hw.buf t b hb).ex
      exact ⟨blk, cap, vs, by rw [hbf t ht]; exact h1, by simp [Gh.cut, h2, ht], h3⟩
    · obtain ⟨rfl, k, hk, hkm, hkb⟩ := hnew t b ht hb
      obtain ⟨blk, cap, vs, h1, h2, h3⟩ := (hw.buf k b hkb).ex
      refine ⟨blk, cap, vs, by simp [Gh.cut, hk, h1], ?_, h3⟩
      have : ¬ k < A0.bufs.length := by omega
      simp [Gh.cut, h2, this, hk]
  · obtain ⟨o', h1, _⟩ := hown blk o ho
    exact hw.lt _ _ h1
  · obtain ⟨o', h1, h2⟩ := hown blk _ ho
    rw [h2 i rfl] at h1
    exact hw.sobj _ _ _ h1 hs
  · have ht := lt_of_get hb
    obtain ⟨b', h1, h2, h3, h4⟩ := e.bufs t b hb
    exact ⟨b', by rw [hbs t ht]; exact h1, h2, h3, fun h => by rw [hbf t ht]; exact h4 h⟩
  · obtain ⟨h1, h2, h3⟩ := e.free b hb ho
    exact ⟨h1, by simp [Gh.cut, h2], h3⟩

theorem acut_rel (hw0 : WRel W0 g0 A0) (hw : WRel W g A) (e : Ev W0 g0 A0 W g A) {x : AV} {v : Value} (r : RelV W g A x v) :
    ∃ g', RelV W g' (acut A0 x A).2 (acut A0 x A).1 v ∧ WRel W g' (acut A0 x A).2 ∧ Ev W0 g0 A0 W g' (acut A0 x A).2 := by
  have hm : A0.bufs.length ≤ A.bufs.length := by
    rcases Nat.lt_or_ge A.bufs.length A0.bufs.length with h | h
    · have := e.lenBufs (tok := A.bufs.length) h
      omega
    · exact h
  have take : ∀ t, t < A0.bufs.length → (A.bufs.take A0.bufs.length)[t]? = A.bufs[t]? := fun t ht => by rw [List.getElem?_take, if_pos ht]
  have tlen : (A.bufs.take A0.bufs.length).length = A0.bufs.length := by simp [hm]
  unfold acut
  split
  · rename_i hobj
    have plain := cut_rel hw0 hw e hobj none (A.bufs.take A0.bufs.length) (by omega) take (fun t b ht hb => by rw [List.getElem?_eq_none (by omega)] at hb; cases hb)
    split
    · rename_i hnp
      exact ⟨g.cut A0.objs.length A0.bufs.length none, noptr_rel r hnp rfl, plain.1, plain.2⟩
    · split
      · rename_i tok len hnp
        split
        · rename_i ht
          refine ⟨g.cut A0.objs.length A0.bufs.length none, ?_, plain.1, plain.2⟩
          cases r with
          | own _ _ a cap ht' hh =>
          refine .own tok len a cap (by simp; omega) fun b hb => ?_
          simp only at hb
          rw [take tok ht] at hb
          obtain ⟨h1, h2⟩ := hh b hb
          refine ⟨h1, fun h => ?_⟩
          have : ¬ tok = A0.bufs.length := by omega
          simp only [Gh.cut, this, if_false]
          exact h2 h
        · rename_i ht
          split
          · rename_i b hb
            have k := cut_rel hw0 hw e hobj (some tok) (A.bufs.take A0.bufs.length ++ [b]) (by simp; omega) (fun t ht' => by rw [List.getElem?_append_left (by omega)]; exact take t ht') (fun t b' ht' hb' => by
              rw [List.getElem?_append_right (by omega), tlen] at hb'
              have h1 := lt_of_get hb'
              simp at h1
              have : t = A0.bufs.length := by omega
              subst this
              simp at hb'
              subst hb'
              exact ⟨rfl, tok, rfl, by omega, hb⟩)
            refine ⟨g.cut A0.objs.length A0.bufs.length (some tok), ?_, k.1, k.2⟩
            cases r with
            | own _ _ a cap ht' hh =>
            refine .own A0.bufs.length len a cap (by simp; omega) fun b' hb' => ?_
            simp only at hb'
            rw [List.getElem?_append_right (by omega), tlen] at hb'
            simp at hb'
            subst hb'
            obtain ⟨h1, h2⟩ := hh b hb
            refine ⟨h1, fun h => ?_⟩
            simp only [Gh.cut, if_true]
            exact h2 h
          · exact ⟨g, r, hw, e⟩
      · exact ⟨g, r, hw, e⟩
  · exact ⟨g, r, hw, e⟩

theorem afinish_rel (hw0 : WRel W0 g0 A0) (hw : WRel W g A) (e : Ev W0 g0 A0 W g A) {x : AV} {v : Value} (r : RelV W g A x v) :
    ∃ g', RelV W g' (afinish c f A0 x A).2 (afinish c f A0 x A).1 v ∧ WRel W g' (afinish c f A0 x A).2 ∧ Ev W0 g0 A0 W g' (afinish c f A0 x A).2 := by
  unfold afinish
  split
  · exact acut_rel hw0 hw e r
  · obtain ⟨g1, r1, w1, e1⟩ := acleanR_rel hw r
    exact acut_rel hw0 w1 (e.trans e1) r1

theorem aenter_look : ∀ (k : Nat) (xs : List AV) (t : Nat) (s : Slot), alook (aenter k xs) t = some s → ∃ x, xs[t - k]? = some x ∧ k ≤ t ∧ s = .v x
  | k, [], t, s, h => by cases h
  | k, y :: ys, t, s, h => by
    simp only [aenter, alook] at h
    split at h
    · rename_i ht
      subst ht
      cases h
      exact ⟨y, by simp, Nat.le_refl _, rfl⟩
    · obtain ⟨x, h1, h2, h3⟩ := aenter_look (k + 1) ys t s h
      refine ⟨x, ?_, by omega, h3⟩
      have : t - k = (t - (k + 1)) + 1 := by omega
      rw [this, List.getElem?_cons_succ]
      exact h1

def CallOk1 (P : Program) (f : FuncId) (h : AFun) : Prop :=
  ∀ (xs : List AV) (A : AHeap) (x : AV) (A' : AHeap), h xs A = some (x, A') →
    (∃ fn, P.funcs[f]? = some fn ∧ (fn.name == "runtime.NumGoroutine") = false ∧ fn.body.isNone = false) ∧
    ∀ (W : World) (g : Gh) (vs : List Value), WRel W g A → RelL W g A xs vs → Calls P f vs.toArray W (CallPost W g A x A')

theorem abody_ok (hm : c.P.follows .mixedOrders = true) (hext : ∀ f h, c.ext f = some h → CallOk1 c.P f h) (hc : CallOk c.P call) (lf : Nat) : CallOk c.P (abody c call lf) := by
  intro f xs A x A' h
  unfold abody at h
  split at h
  · rename_i k hk
    exact hext f k hk xs A x A' h
  · split at h
    · cases h
    rename_i fn hfn
    split at h
    · cases h
    rename_i code hcode
    split at h
    case isFalse => cases h
    rename_i hcond
    obtain ⟨hok, hnargs⟩ := hcond
    have facts : (∃ fn, c.P.funcs[f]? = some fn ∧ (fn.name == "runtime.NumGoroutine") = false ∧ fn.body.isNone = false) ∧ acheck code = true := by
      unfold fnOk at hok
      rw [hfn] at hok
      simp only [hcode, Bool.and_eq_true] at hok
      refine ⟨⟨fn, hfn, ?_, by rw [hcode]; rfl⟩, hok.2⟩
      have := hok.1
      simp only [bne_iff_ne, ne_eq] at this
      simpa using this
    refine ⟨facts.1, fun W g vs hw hr => ?_⟩
    simp only [Option.bind_eq_some_iff] at h
    obtain ⟨⟨ex, env', A2⟩, hrun, hfin⟩ := h
    -- the arguments
    have enter : ∃ g1, RelL W g1 (if c.own f then (xs, A) else acleanVs A xs).2 (if c.own f then (xs, A) else acleanVs A xs).1 vs ∧ WRel W g1 (if c.own f then (xs, A) else acleanVs A xs).2 ∧ Ev W g A W g1 (if c.own f then (xs, A) else acleanVs A xs).2 ∧
        (if c.own f then (xs, A) else acleanVs A xs).1.length ≤ fn.ntmps := by
      split
      · exact ⟨g, hr, hw, .refl _ _ _, hnargs⟩
      · obtain ⟨g1, r1, w1, e1⟩ := acleanVs_rel hw hr
        refine ⟨g1, r1, w1, e1, ?_⟩
        have h1 := r1.1
        have h2 := hr.1
        omega
    obtain ⟨g1, r1, w1, e1, hl1⟩ := enter
    generalize hargs : (if c.own f then (xs, A) else acleanVs A xs) = args at *
    obtain ⟨xs1, A1⟩ := args
    simp only at r1 w1 e1 hl1 hrun
    have hvl : vs.length ≤ fn.ntmps := by rw [← r1.1]; exact hl1
    refine calls_of_wp hfn hcode ?_
    have st0 : StG W g A fn.ntmps (aenter 0 xs1) A1 { tmps := vs.toArray ++ Array.replicate (fn.ntmps - vs.toArray.size) undef, defers := [] } W g1 (fun _ => 0) := by
      refine ⟨w1, ⟨by simp; omega, fun t s hs => ?_, fun p q c1 c2 h1 => ?_, fun t cs h1 => ?_⟩, e1, rfl⟩
      · obtain ⟨y, h1, _, rfl⟩ := aenter_look 0 xs1 t s hs
        rw [Nat.sub_zero] at h1
        have hlt : t < vs.length := r1.1 ▸ lt_of_get h1
        refine .v y vs[t] ?_ (r1.2 t y _ h1 (List.getElem?_eq_getElem hlt))
        simp only
        rw [Array.getElem?_append_left (by simpa using hlt), List.getElem?_toArray]
        exact List.getElem?_eq_getElem hlt
      · obtain ⟨y, _, _, h2⟩ := aenter_look 0 xs1 p _ h1
        cases h2
      · obtain ⟨y, _, _, h2⟩ := aenter_look 0 xs1 t _ h1
        cases h2
    refine acode_wp hm hc code facts.2 hrun ⟨g1, _, st0⟩ fun a' W' st' => ?_
    obtain ⟨g2, β2, s2⟩ := st'
    have done : (aresults c env' A2 fn.results.toList).map (fun v => afinish c f A v A2) = some (x, A') →
        a'.defers = [] ∧ ∃ v, (results fn a'.tmps).run c.P W' = .ok v W' ∧ CallPost W g A x A' (.returned v) W' := by
      intro h
      rw [Option.map_eq_some_iff] at h
      obtain ⟨y, hy, h⟩ := h
      obtain ⟨v, hv, hrv⟩ := aresults_rel s2 hy
      obtain ⟨g3, r3, w3, e3⟩ := afinish_rel (c := c) (f := f) hw s2.w s2.ev hrv
      rw [h] at r3 w3 e3
      exact ⟨s2.df, v, hv, v, g3, rfl, r3, w3, e3⟩
    cases ex with
    | exit id => cases hfin
    | normal => exact done hfin
    | ret => exact done hfin

theorem aclF_ok (hm : c.P.follows .mixedOrders = true) (hext : ∀ f h, c.ext f = some h → CallOk1 c.P f h) : ∀ n, CallOk c.P (aclF c n)
  | 0 => fun f xs A x A' h => by cases h
  | n + 1 => abody_ok hm hext (aclF_ok hm hext n) n

theorem acl_ok (hm : c.P.follows .mixedOrders = true) (hext : ∀ f h, c.ext f = some h → CallOk1 c.P f h) : CallOk c.P (acl c) := by
  intro f xs A x A' h
  obtain ⟨n, hn⟩ := acl_some.1 h
  exact aclF_ok hm hext n f xs A x A' hn

end
end Go.Abs
