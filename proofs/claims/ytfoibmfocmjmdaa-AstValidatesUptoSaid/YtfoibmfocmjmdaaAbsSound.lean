/- The abstract machine's answers are the model's. -/
import Derived.Test.YtfoibmfocmjmdaaAbsDrawn2
import Derived.LoopN
set_option linter.unusedVariables false
set_option linter.unusedSimpArgs false
set_option linter.all false
set_option linter.deprecated false
namespace Go.Abs

section
variable {P : Program} {W W' W0 : World} {g g' g0 : Gh} {A A' A0 : AHeap} {nt : Nat} {β : Nat → Nat} {env env' : AEnv} {a : Act} {Q : Exit → Act → World → Prop} {c : ACtx} {call : FuncId → AFun} {f : FuncId} {ops : Array Oper}

/-- fewer slots -/
theorem StG.sub (s : StG W0 g0 A0 nt env A a W g β) (h : ∀ t x, alook env' t = some x → alook env t = some x) : StG W0 g0 A0 nt env' A a W g β :=
  ⟨s.w, ⟨s.e.size, fun t x hx => s.e.slot t x (h t x hx), fun p q c1 c2 h1 h2 h3 => s.e.inj p q c1 c2 (h _ _ h1) (h _ _ h2) h3, fun t cs hx => s.e.young t cs (h _ _ hx)⟩, s.ev, s.df⟩

theorem StG.same (s : StG W0 g0 A0 nt env A a W g β) (h : W'.heap = W.heap) (hr : Rest W W') : StG W0 g0 A0 nt env A a W' g β :=
  ⟨s.w.same h hr, s.e.ev (Ev.same h hr), s.ev.trans (Ev.same h hr), s.df⟩

theorem akeep_look {t : Nat} {x : Slot} : ∀ {ts : List Nat}, alook (akeep env ts) t = some x → alook env t = some x
  | [], h => by cases h
  | q :: ts, h => by
    unfold akeep at h
    split at h
    · rename_i y hy
      rw [alook] at h
      split at h
      · rename_i hq; subst hq; cases h; exact hy
      · exact akeep_look h
    · exact akeep_look h

theorem atrim_look {r : Option Nat} {t : Nat} {x : Slot} (h : alook (atrim c f r env) t = some x) : alook env t = some x := by
  unfold atrim at h
  split at h
  · exact akeep_look h
  · exact h

theorem aguard_wanted (s : StG W0 g0 A0 nt env A a W g β) {o : Oper} {b : Bool} (h : aguard ops env o = some b) : Region.wanted o (yielded ops a.tmps) = b := by
  unfold aguard at h
  unfold Region.wanted
  cases hg : o.guard with
  | none => rw [hg] at h; cases h; rfl
  | some p =>
    obtain ⟨j, w⟩ := p
    rw [hg] at h
    simp only at h ⊢
    cases hd : (ops[j]?).bind (·.dst) with
    | none => rw [hd] at h; cases h
    | some t =>
      rw [hd] at h
      simp only at h
      split at h
      · rename_i x hx
        cases s.e.slot t _ hx with
        | v _ u hu r =>
        unfold agt at h
        split at h
        · rename_i b' w'
          cases h
          have := r.dBool
          subst this
          simp only [yielded, hd, Option.bind_some, hu]
          cases b' <;> cases w <;> rfl
        · cases h
          cases r with
          | tuple _ vs hl _ =>
          have : vs = [] := by cases vs with | nil => rfl | cons _ _ => simp at hl
          subst this
          simp only [yielded, hd, Option.bind_some, hu]
          rfl
        · cases h
      · cases h

theorem astep_wp (hc : CallOk c.P call) (s : StG W0 g0 A0 nt env A a W g β) {i : Nat} {o : Oper} (ho : ops[i]? = some o) (h : astep c call f nt ops o env A = some (env', A')) : wpOp c.P ops Q i (St W0 g0 A0 nt env' A') a W := by
  unfold astep at h
  rw [Option.bind_eq_some_iff] at h
  obtain ⟨b, hb, h⟩ := h
  have hw := aguard_wanted s hb
  unfold wpOp
  simp only [ho, hw]
  cases b with
  | true =>
    simp only [if_true] at h ⊢
    exact .inl (aop_wp hc s h)
  | false =>
    simp only [Bool.false_eq_true, if_false, Option.map_eq_some_iff] at h ⊢
    obtain ⟨e1, he, h⟩ := h
    cases h
    exact ⟨g, β, s.value undef_rel s.w (.refl _ _ _) he⟩

/-- operations in the text's order -/
theorem aops_wp (hc : CallOk c.P call) : ∀ (l : List Oper) (i : Nat) {env : AEnv} {A : AHeap} {a : Act} {W : World} {env' : AEnv} {A' : AHeap}, l = ops.toList.drop i → aops c call f nt ops l env A = some (env', A') →
    St W0 g0 A0 nt env A a W → (∀ a W, St W0 g0 A0 nt env' A' a W → Q .normal a W) → wpOps c.P ops Q (List.range' i l.length) a W
  | [], i, env, A, a, W, env', A', hl, h, hs, hq => by
    simp only [aops] at h
    cases h
    exact hq a W hs
  | o :: l, i, env, A, a, W, env', A', hl, h, hs, hq => by
    simp only [aops, Option.bind_eq_some_iff] at h
    obtain ⟨⟨e1, A1⟩, h1, h2⟩ := h
    obtain ⟨g, β, s⟩ := hs
    have ho : ops[i]? = some o := by
      have : (ops.toList.drop i)[0]? = some o := by rw [← hl]; rfl
      rw [List.getElem?_drop, Nat.add_zero, Array.getElem?_toList] at this
      exact this
    have hl' : l = ops.toList.drop (i + 1) := by
      rw [← List.tail_drop, ← hl]; rfl
    simp only [List.length_cons, List.range'_succ, wpOps_cons]
    exact wpOp_mono (fun a' W' hs' => aops_wp hc l (i + 1) hl' h2 hs' hq) (astep_wp hc s ho h1)

/-! a region that draws its order -/
theorem ready_mem {L : Array Bool} {i : Nat} (h : i ∈ Region.ready .any ops L) (hsz : L.size = ops.size) : ∃ o, ops[i]? = some o ∧ L[i]? = some false ∧ ∀ e ∈ o.after, Region.binds .any e = true → L[e.on]? = some true := by
  unfold Region.ready at h
  rw [List.mem_filter] at h
  obtain ⟨h1, h2⟩ := h
  have hi : i < ops.size := List.mem_range.1 h1
  have hil : i < L.size := by rw [hsz]; exact hi
  rw [Bool.and_eq_true] at h2
  obtain ⟨h2, h3⟩ := h2
  rw [Array.getElem?_eq_getElem hi] at h3
  simp only [Option.map_some, Option.getD_some, Array.all_eq_true'] at h3
  refine ⟨ops[i], Array.getElem?_eq_getElem hi, ?_, fun e he hb => ?_⟩
  · rw [Array.getD_eq_getD_getElem?, Array.getElem?_eq_getElem hil] at h2
    simp only [Option.getD_some, Bool.not_eq_true'] at h2
    rw [Array.getElem?_eq_getElem hil, h2]
  · have := h3 e he
    rw [hb] at this
    simp only [Bool.not_true, Bool.false_or] at this
    rw [Array.getD_eq_getD_getElem?] at this
    cases hx : L[e.on]? with
    | none => rw [hx] at this; cases this
    | some b => rw [hx] at this; simp at this; rw [this]

theorem ready_nil {L : Array Bool} (h : Region.ready .any ops L = []) (hsz : L.size = ops.size) (hs : Stat ops) : ∀ i, i < ops.size → L[i]? = some true := by
  intro i
  induction i using Nat.strongRecOn with
  | ind i ih =>
    intro hi
    have hil : i < L.size := by rw [hsz]; exact hi
    have hm : i ∉ Region.ready .any ops L := by rw [h]; exact List.not_mem_nil
    unfold Region.ready at hm
    rw [List.mem_filter] at hm
    cases hb : L[i] with
    | true => rw [Array.getElem?_eq_getElem hil, hb]
    | false =>
      exfalso
      apply hm
      refine ⟨List.mem_range.2 hi, ?_⟩
      rw [Bool.and_eq_true]
      refine ⟨?_, ?_⟩
      · rw [Array.getD_eq_getD_getElem?, Array.getElem?_eq_getElem hil, hb]; rfl
      · rw [Array.getElem?_eq_getElem hi]
        simp only [Option.map_some, Option.getD_some, Array.all_eq_true']
        intro e he
        cases hbd : Region.binds .any e with
        | false => rfl
        | true =>
          have hlt := hs.edge i _ (Array.getElem?_eq_getElem hi) e he hbd
          have := ih e.on hlt (by omega)
          rw [Array.getD_eq_getD_getElem?, this]
          rfl

theorem count_set {L : Array Bool} {i : Nat} (h : L[i]? = some false) : (L.setIfInBounds i true).toList.count false + 1 = L.toList.count false := by
  have hi : i < L.size := (Array.getElem?_eq_some_iff.1 h).1
  have hv : L.toList[i]? = some false := by rw [Array.getElem?_toList]; exact h
  rw [Array.toList_setIfInBounds]
  have key : ∀ (l : List Bool) (i : Nat), l[i]? = some false → (l.set i true).count false + 1 = l.count false := by
    intro l
    induction l with
    | nil => intro i h; simp at h
    | cons b l ih =>
      intro i h
      cases i with
      | zero => simp at h; subst h; simp
      | succ i =>
        simp only [List.set_cons_succ, List.count_cons]
        have := ih i (by simpa using h)
        omega
  exact key _ _ hv

theorem drawn_wp (hc : CallOk c.P call) {ms : List AMark} {E : Nat → AEnv} {H : Nat → AHeap} (h : Tr c call f nt ops ms E H) (hs : Stat ops) (hdr : adrawn ops ms) (h0 : PlaceOk ops (E 0))
    (hq : ∀ a W, St W0 g0 A0 nt (E ops.size) (H ops.size) a W → Q .normal a W) : ∀ (fuel : Nat) (L : Array Bool) (F : AEnv) (G : AHeap) (a : Act) (W : World), L.toList.count false = fuel → Inv ops E H L F G → St W0 g0 A0 nt F G a W → wpAny c.P .any ops Q fuel L a W := by
  have fin : ∀ {L : Array Bool} {F : AEnv} {G : AHeap} {a : Act} {W : World}, Inv ops E H L F G → St W0 g0 A0 nt F G a W → (∀ i, i < ops.size → L[i]? = some true) → Q .normal a W := by
    intro L F G a W v st hall
    apply hq
    have e1 : ∀ t, alook F t = alook (E ops.size) t := fun t => v.sl t _ (Nat.le_refl _) fun j hj => by
      obtain ⟨o, ho, _⟩ := hj
      have := (Array.getElem?_eq_some_iff.1 ho).1
      exact ⟨fun _ => hall j this, fun _ => this⟩
    have e2 : G.objs = (H ops.size).objs := v.ob _ (Nat.le_refl _) fun j hj => by
      obtain ⟨o, ho, _⟩ := hj
      have := (Array.getElem?_eq_some_iff.1 ho).1
      exact ⟨fun _ => hall j this, fun _ => this⟩
    have e3 : G.bufs = (H ops.size).bufs := v.bf _ (Nat.le_refl _) fun j hj => by
      obtain ⟨o, ho, _⟩ := hj
      have := (Array.getElem?_eq_some_iff.1 ho).1
      exact ⟨fun _ => hall j this, fun _ => this⟩
    have e4 : G = H ops.size := by
      cases hG : G; cases hH : H ops.size
      rw [hG, hH] at e2 e3
      simp only at e2 e3
      rw [e2, e3]
    obtain ⟨g, β, s⟩ := st
    refine ⟨g, β, ?_⟩
    rw [← e4]
    exact s.sub fun t x hx => by rw [e1 t]; exact hx
  intro fuel
  induction fuel with
  | zero =>
    intro L F G a W hcnt v st
    have hall : ∀ i, i < ops.size → L[i]? = some true := by
      intro i hi
      have hil : i < L.size := by rw [v.sz]; exact hi
      cases hb : L[i] with
      | true => rw [Array.getElem?_eq_getElem hil, hb]
      | false =>
        have : false ∈ L.toList := by rw [← hb]; simp
        have := List.count_pos_iff.2 this
        omega
    refine ⟨?_, fin v st hall⟩
    cases hr : Region.ready .any ops L with
    | nil => rfl
    | cons i rest =>
      obtain ⟨o, ho, hf, _⟩ := ready_mem (ops := ops) (L := L) (i := i) (by rw [hr]; exact List.mem_cons_self) v.sz
      have := hall i (Array.getElem?_eq_some_iff.1 ho).1
      rw [hf] at this
      cases this
  | succ fuel ih =>
    intro L F G a W hcnt v st
    refine ⟨fun hr => fin v st (ready_nil hr v.sz hs), fun i hi => ?_⟩
    obtain ⟨o, ho, hf, he⟩ := ready_mem hi v.sz
    obtain ⟨F', G', hst, v'⟩ := v.step h hs hdr h0 ho (by rw [hf]; intro e; cases e) he
    obtain ⟨g, β, s⟩ := st
    refine wpOp_mono (fun a' W' st' => ih _ F' G' a' W' ?_ v' st') (astep_wp hc s ho hst)
    have := count_set hf
    omega

theorem inv0 {E : Nat → AEnv} {H : Nat → AHeap} (h0 : PlaceOk ops (E 0)) (hsl : ∀ t i, i ≤ ops.size → (∀ j, Wr ops E j t → ¬ j < i) → alook (E 0) t = alook (E i) t)
    (hob : ∀ i, i ≤ ops.size → (∀ j, ChO ops E H j → ¬ j < i) → (H 0).objs = (H i).objs) (hbf : ∀ i, i ≤ ops.size → (∀ j, ChB ops E H j → ¬ j < i) → (H 0).bufs = (H i).bufs) : Inv ops E H (Array.replicate ops.size false) (E 0) (H 0) := by
  have hn : ∀ j : Nat, (Array.replicate ops.size false)[j]? ≠ some true := by
    intro j h
    rw [Array.getElem?_replicate] at h
    split at h <;> cases h
  exact ⟨by simp, fun j o _ hj => absurd hj (hn j), fun t i hi hc => hsl t i hi fun j hj hl => hn j ((hc j hj).1 hl), fun i hi hc => hob i hi fun j hj hl => hn j ((hc j hj).1 hl), fun i hi hc => hbf i hi fun j hj hl => hn j ((hc j hj).1 hl), h0⟩

/-- a variable of the frame's own becomes an object -/
theorem StG.promote1 (s : StG W0 g0 A0 nt env A a W g β) {d : Nat} {cs : List AV} (h : alook env d = some (.box cs)) :
    ∃ g', StG W0 g0 A0 nt ((d, .v (.ptr A.objs.length 0)) :: env) { A with objs := A.objs ++ [.cells cs] } a W g' β := by
  have hw := s.w
  cases s.e.slot d _ h with
  | box _ h1 vs T hb hr ho hS =>
  have hN := s.e.young d _ h
  have ev : EvV W g A W (g.newObj A.objs.length (β d)) { A with objs := A.objs ++ [.cells cs] } := by
    refine ⟨Nat.le_refl _, fun b o hs => ⟨hs, rfl⟩, fun id hid => ?_, by simp, fun t b hb => ⟨b, hb, rfl, Nat.le_refl _, fun _ => rfl⟩, .refl W⟩
    simp [Gh.newObj]; omega
  have own' : ∀ b o, g.own b = some o → (g.newObj A.objs.length (β d)).own b = some o := by
    intro b o hb'
    have : b ≠ β d := fun e => by rw [e, ho] at hb'; cases hb'
    simp [Gh.newObj, this, hb']
  refine ⟨g.newObj A.objs.length (β d), ⟨⟨fun id o hid => ?_, fun t b hbt => ?_, fun blk o hbo => ?_, hw.stab, fun blk id o hbo hs => ?_⟩, ⟨s.e.size, fun t x hx => ?_, fun p q c1 c2 e1 e2 e3 => ?_, fun t c e1 => ?_⟩, ⟨s.ev.toEvV.trans ev, fun b hb' hbo => ?_⟩, s.df⟩⟩
  · rcases Nat.lt_or_ge id A.objs.length with hlt | hge
    · simp only at hid
      rw [List.getElem?_append_left hlt] at hid
      obtain ⟨k1, k2⟩ := hw.obj id o hid
      rw [ev.ob id hlt]
      exact ⟨own' _ _ k1, k2.ev ev rfl⟩
    · simp only at hid
      rw [List.getElem?_append_right hge] at hid
      have hid0 := lt_of_get hid
      simp at hid0
      have : id = A.objs.length := by omega
      subst this
      simp at hid
      subst hid
      refine ⟨by simp [Gh.newObj], vs, T, by simpa [Gh.newObj] using hb, ev.relL hr⟩
  · exact (hw.buf t b hbt).keep rfl (fun blk hb' => own' _ _ hb') (fun _ _ => rfl) (fun _ _ _ x => x) (fun _ _ r => ev.relD r)
  · simp only [Gh.newObj] at hbo
    split at hbo
    · rename_i e; rw [e]; exact lt_heap hb
    · exact hw.lt _ _ hbo
  · simp only [Gh.newObj] at hbo
    split at hbo
    · rename_i e; subst e; exact hS o hs
    · exact hw.sobj _ _ _ hbo hs
  · rw [alook_cons_eq] at hx
    split at hx
    · rename_i ht
      subst ht
      cases hx
      refine .v _ _ h1 ?_
      have := RelV.ptr (W := W) (g := g.newObj A.objs.length (β d)) (A := { A with objs := A.objs ++ [.cells cs] }) A.objs.length 0 (by simp)
      simpa [Gh.newObj] using this
    · rename_i ht
      cases hsl : s.e.slot t x hx with
      | v y u k1 r => exact .v y u k1 (ev.relV r)
      | box c k1 vs2 T2 k2 r2 ho2 hs2 =>
        have hne : β t ≠ β d := fun e => ht (s.e.inj t d _ _ hx h e).symm
        exact .box c k1 vs2 T2 k2 (ev.relL r2) (by simp [Gh.newObj, hne, ho2]) hs2
      | place q off k1 => exact .place q off k1
  · rw [alook_cons_eq] at e1 e2
    split at e1
    · cases e1
    · split at e2
      · cases e2
      · exact s.e.inj p q c1 c2 e1 e2 e3
  · rw [alook_cons_eq] at e1
    split at e1
    · cases e1
    · exact s.e.young t c e1
  · obtain ⟨k1, k2, k3⟩ := s.ev.free b hb' hbo
    have : b ≠ β d := by omega
    exact ⟨k1, by simp [Gh.newObj, this, k2], k3⟩

theorem StG.promote {esc : List Nat} : ∀ (l : List Oper) {env : AEnv} {A : AHeap} {g : Gh}, StG W0 g0 A0 nt env A a W g β → ∃ g', StG W0 g0 A0 nt (apromote esc l env A).1 (apromote esc l env A).2 a W g' β
  | [], env, A, g, s => ⟨g, s⟩
  | o :: l, env, A, g, s => by
    unfold apromote
    split
    · exact StG.promote l s
    · split
      · split
        · rename_i hc
          obtain ⟨g', s'⟩ := s.promote1 hc
          exact StG.promote l s'
        · exact StG.promote l s
      · exact StG.promote l s

theorem aregion_wp (hm : c.P.follows .mixedOrders = true) (hc : CallOk c.P call) {id : Nat} {draw : Bool} (hk : (!draw || adrawStatic ops) = true) (h : aregion c call f nt ops draw env A = some (env', A')) (st : St W0 g0 A0 nt env A a W)
    (hq : ∀ a W, St W0 g0 A0 nt env' A' a W → Q .normal a W) : (Code.region id ops draw).wp c.P Q a W := by
  unfold aregion at h
  cases draw with
  | false =>
    simp only [Bool.false_eq_true, if_false] at h
    refine wp_region ?_
    have := aops_wp (Q := Q) hc ops.toList 0 (by simp) h st hq
    rw [List.range_eq_range']
    simpa using this
  | true =>
    simp only [if_true, Option.bind_eq_some_iff] at h
    obtain ⟨⟨⟨e1, A1⟩, ms⟩, htr, h⟩ := h
    split at h
    case isFalse => cases h
    rename_i hdr
    have hq' : ∀ a W, St W0 g0 A0 nt e1 A1 a W → Q .normal a W := by
      rintro a W ⟨g, β, s⟩
      obtain ⟨g', s'⟩ := s.promote (esc := c.esc f) ops.toList
      simp only [Option.some.injEq] at h
      rw [h] at s'
      exact hq a W ⟨g', β, s'⟩
    have hs : Stat ops := stat_of (by simpa using hk)
    obtain ⟨E, H, q1, q2, q3, q4, q5⟩ := trace_spec ops.toList 0 _ _ _ _ _ htr
    simp only [Nat.zero_add, Array.length_toList] at q3 q4 q5
    have tr : Tr c.noesc call f nt ops ms E H := fun k o ho => q5 k o (by rw [Array.getElem?_toList]; exact ho)
    have h0 : PlaceOk ops (E 0) := by rw [q1]; exact noPlaces_ok env
    refine wp_region_any hm (drawn_wp (c := c.noesc) hc tr hs hdr h0 (by rw [q3, q4]; exact hq') _ _ (E 0) (H 0) a _ (by simp) (inv0 h0 (fun t i hi hw => ?_) (fun i hi hw => ?_) (fun i hi hw => ?_)) ?_)
    · exact (tr.slots (Nat.zero_le _) hi fun j hj hh => hw j hj hh.2).symm
    · exact (tr.objs (Nat.zero_le _) hi fun j hj hh => hw j hj hh.2).symm
    · exact (tr.bufs (Nat.zero_le _) hi fun j hj hh => hw j hj hh.2).symm
    · obtain ⟨g, β, s⟩ := st
      rw [q1, q2]
      exact ⟨g, β, (s.sub fun t x hx => noPlaces_look hx).same rfl ⟨rfl, rfl, fun _ => rfl⟩⟩

/-! code -/
def AEx.exit' : AEx → Exit
  | .normal => .normal
  | .exit id => .exit id
  | .ret => .ret

theorem aloop_wp {b : Code} {body : AEnv → AHeap → ARes} {trim : AEnv → AEnv} (ht : ∀ env t x, alook (trim env) t = some x → alook env t = some x)
    (hb : ∀ {env : AEnv} {A : AHeap} {x : AEx} {env' : AEnv} {A' : AHeap} {a : Act} {W : World} {Q : Exit → Act → World → Prop}, body env A = some (x, env', A') → St W0 g0 A0 nt env A a W → (∀ a W, St W0 g0 A0 nt env' A' a W → Q x.exit' a W) → b.wp P Q a W) :
    ∀ (n : Nat) {env : AEnv} {A : AHeap} {x : AEx} {env' : AEnv} {A' : AHeap} {a : Act} {W : World}, aloop body trim n env A = some (x, env', A') → St W0 g0 A0 nt env A a W → (∀ a W, St W0 g0 A0 nt env' A' a W → Q x.exit' a W) → Code.rounds P b Q n a W
  | 0, env, A, x, env', A', a, W, h, _, _ => by simp only [aloop] at h; cases h
  | n + 1, env, A, x, env', A', a, W, h, st, hq => by
    simp only [aloop, Option.bind_eq_some_iff] at h
    obtain ⟨⟨y, e1, A1⟩, h1, h2⟩ := h
    obtain ⟨g, β, s⟩ := st
    refine hb h1 ⟨g, β, s.sub (ht env)⟩ fun a' W' st' => ?_
    cases y with
    | normal => exact aloop_wp ht hb n h2 st' hq
    | exit id => cases h2; exact hq a' W' st'
    | ret => cases h2; exact hq a' W' st'

theorem acode_wp (hm : c.P.follows .mixedOrders = true) (hc : CallOk c.P call) {lf : Nat} : ∀ (code : Code) {env : AEnv} {A : AHeap} {x : AEx} {env' : AEnv} {A' : AHeap} {a : Act} {W : World} {Q : Exit → Act → World → Prop}, acheck code = true →
    acode c call f nt lf code env A = some (x, env', A') → St W0 g0 A0 nt env A a W → (∀ a W, St W0 g0 A0 nt env' A' a W → Q x.exit' a W) → code.wp c.P Q a W
  | .skip, env, A, x, env', A', a, W, Q, hk, h, st, hq => by
    simp only [acode] at h
    cases h
    exact Go.wp_skip (hq a W st)
  | .region id ops draw, env, A, x, env', A', a, W, Q, hk, h, st, hq => by
    simp only [acode, Option.map_eq_some_iff] at h
    obtain ⟨⟨e1, A1⟩, h1, h⟩ := h
    cases h
    simp only [acheck] at hk
    obtain ⟨g, β, s⟩ := st
    exact aregion_wp hm hc hk h1 ⟨g, β, s.sub fun t x hx => atrim_look hx⟩ hq
  | .seq p q, env, A, x, env', A', a, W, Q, hk, h, st, hq => by
    simp only [acode, Option.bind_eq_some_iff] at h
    obtain ⟨⟨y, e1, A1⟩, h1, h2⟩ := h
    simp only [acheck, Bool.and_eq_true] at hk
    refine wp_seq (acode_wp hm hc p hk.1 h1 st fun a' W' st' => ?_)
    cases y with
    | normal => exact acode_wp hm hc q hk.2 h2 st' hq
    | exit id => cases h2; exact hq a' W' st'
    | ret => cases h2; exact hq a' W' st'
  | .cond cnd p q, env, A, x, env', A', a, W, Q, hk, h, st, hq => by
    simp only [acode] at h
    simp only [acheck, Bool.and_eq_true] at hk
    split at h
    · rename_i b hb
      obtain ⟨g, β, s⟩ := st
      refine wp_cond (aeval_rel s.e hb).dBool ?_
      cases b with
      | true => simp only [if_true] at h ⊢; exact acode_wp hm hc p hk.1 h ⟨g, β, s⟩ hq
      | false => simp only [Bool.false_eq_true, if_false] at h ⊢; exact acode_wp hm hc q hk.2 h ⟨g, β, s⟩ hq
    · cases h
  | .block id b, env, A, x, env', A', a, W, Q, hk, h, st, hq => by
    simp only [acode, Option.map_eq_some_iff] at h
    obtain ⟨⟨y, e1, A1⟩, h1, h2⟩ := h
    simp only [acheck] at hk
    refine wp_block (acode_wp hm hc b hk h1 st fun a' W' st' => ?_)
    cases y with
    | normal => cases h2; exact hq a' W' st'
    | ret => cases h2; exact hq a' W' st'
    | exit j =>
      simp only at h2
      simp only [AEx.exit', Exit.inBlock]
      split at h2
      · rename_i hj
        cases h2
        rw [if_pos hj]
        exact hq a' W' st'
      · rename_i hj
        cases h2
        rw [if_neg hj]
        exact hq a' W' st'
  | .loop b, env, A, x, env', A', a, W, Q, hk, h, st, hq => by
    simp only [acode] at h
    simp only [acheck] at hk
    exact wp_loop_rounds lf (aloop_wp (fun env t x hx => atrim_look hx) (fun h1 st1 hq1 => acode_wp hm hc b hk h1 st1 hq1) lf h st hq)
  | .exit id, env, A, x, env', A', a, W, Q, hk, h, st, hq => by
    simp only [acode] at h
    cases h
    exact wp_exit (hq a W st)
  | .ret, env, A, x, env', A', a, W, Q, hk, h, st, hq => by
    simp only [acode] at h
    cases h
    exact wp_ret (hq a W st)
  | .goto _, _, _, _, _, _, _, _, _, _, h, _, _ => by simp [acode] at h
  | .label _, _, _, _, _, _, _, _, _, _, h, _, _ => by simp [acode] at h

end
end Go.Abs
