/- A region that draws its order, second part: the invariant of a run in any order. -/
import Derived.Test.YtfoibmfocmjmdaaAbsDrawn
import Derived.Test.YtfoibmfocmjmdaaAbsOp3
set_option linter.unusedVariables false
set_option linter.unusedSimpArgs false
set_option linter.all false
set_option linter.deprecated false
namespace Go.Abs

section
variable {c : ACtx} {call : FuncId → AFun} {f : FuncId} {nt : Nat} {ops : Array Oper} {ms : List AMark} {E : Nat → AEnv} {H : Nat → AHeap}

/-- the run in the text's order -/
def Tr (c : ACtx) (call : FuncId → AFun) (f : FuncId) (nt : Nat) (ops : Array Oper) (ms : List AMark) (E : Nat → AEnv) (H : Nat → AHeap) : Prop :=
  ∀ (k : Nat) (o : Oper), ops[k]? = some o → TStep c call f nt ops ms k o (E k) (H k) (E (k + 1)) (H (k + 1))

def Wr (ops : Array Oper) (E : Nat → AEnv) (k t : Nat) : Prop := ∃ o, ops[k]? = some o ∧ (o.dst = some t ∨ pex ops (E k) o = true)
def ChO (ops : Array Oper) (E : Nat → AEnv) (H : Nat → AHeap) (k : Nat) : Prop := ∃ o, ops[k]? = some o ∧ aguard ops (E k) o = some true ∧ (H (k + 1)).objs ≠ (H k).objs
def ChB (ops : Array Oper) (E : Nat → AEnv) (H : Nat → AHeap) (k : Nat) : Prop := ∃ o, ops[k]? = some o ∧ aguard ops (E k) o = some true ∧ (H (k + 1)).bufs ≠ (H k).bufs

/-- what a step laid -/
theorem TStep.laid {k : Nat} {o : Oper} {E E' : AEnv} {H H' : AHeap} (h : TStep c call f nt ops ms k o E H E' H') : ∃ w, alay nt w E = some E' ∧ (pex ops E o = false → ∃ s, w = o.dst.map (·, s)) ∧
    (∀ d s off, w = some (d, .place s off) → ∃ t, Op.addrOf o.op = some t ∧ ((∃ cs, alook E t = some (.box cs) ∧ s = t) ∨ ∃ off', alook E t = some (.place s off'))) ∧
    (∀ d cs, w = some (d, .box cs) → (Op.lays o.op = true ∧ o.dst = some d) ∨ (o.dst = none ∧ ∃ cs', alook E d = some (.box cs'))) := by
  rcases h with ⟨h1, h2, _⟩ | ⟨h1, h2, h3⟩
  · unfold aop at h2
    rw [Option.bind_eq_some_iff] at h2
    obtain ⟨⟨w, A1⟩, he, h2⟩ := h2
    rw [Option.map_eq_some_iff] at h2
    obtain ⟨e1, hl, h2⟩ := h2
    cases h2
    exact ⟨w, hl, fun hs => aeff_dst he (by simpa [pex, h1] using hs), fun d s off hw => by subst hw; exact aeff_place he, fun d cs hw => by subst hw; exact aeff_box he⟩
  · refine ⟨o.dst.map (·, .v (.tuple [])), h2, fun _ => ⟨_, rfl⟩, fun d s off hw => ?_, fun d cs hw => ?_⟩
    · cases hd : o.dst <;> rw [hd] at hw <;> cases hw
    · cases hd : o.dst <;> rw [hd] at hw <;> cases hw

theorem alay_look {w : Option (Nat × Slot)} {E E' : AEnv} (h : alay nt w E = some E') (t : Nat) (hne : ∀ x, w ≠ some (t, x)) : alook E' t = alook E t := by
  cases w with
  | none => cases h; rfl
  | some p =>
    obtain ⟨d, x⟩ := p
    simp only [alay] at h
    split at h
    · cases h
      rw [alook_cons_eq, if_neg]
      intro hd
      subst hd
      exact hne x rfl
    · cases h

theorem alay_look_eq {E E' : AEnv} {t : Nat} {x : Slot} (h : alay nt (some (t, x)) E = some E') : alook E' t = some x := by
  simp only [alay] at h
  split at h
  · cases h; simp [alook_cons_eq]
  · cases h

theorem alay_mem {w : Option (Nat × Slot)} {E E' : AEnv} (h : alay nt w E = some E') : ∀ p ∈ E', p ∈ E ∨ w = some p := by
  cases w with
  | none => cases h; exact fun p hp => .inl hp
  | some q =>
    obtain ⟨d, x⟩ := q
    simp only [alay] at h
    split at h
    · cases h
      intro p hp
      cases hp with
      | head => exact .inr rfl
      | tail _ hp => exact .inl hp
    · cases h

theorem alay_in {w : Nat × Slot} {E E' : AEnv} (h : alay nt (some w) E = some E') : w ∈ E' := by
  obtain ⟨d, x⟩ := w
  simp only [alay] at h
  split at h
  · cases h; exact List.mem_cons_self
  · cases h

theorem alay_some {w : Option (Nat × Slot)} {E E' : AEnv} (h : alay nt w E = some E') (F : AEnv) : ∃ F', alay nt w F = some F' := by
  cases w with
  | none => exact ⟨F, rfl⟩
  | some p =>
    obtain ⟨d, x⟩ := p
    simp only [alay] at h ⊢
    split at h
    · rename_i hd; exact ⟨_, by rw [if_pos hd]⟩
    · cases h

theorem Tr.slot1 (h : Tr c call f nt ops ms E H) {k t : Nat} (hk : k < ops.size) (hw : ¬ Wr ops E k t) : alook (E (k + 1)) t = alook (E k) t := by
  have ho : ops[k]? = some ops[k] := Array.getElem?_eq_getElem hk
  obtain ⟨w, hl, hd, _⟩ := (h k _ ho).laid
  have hns : pex ops (E k) ops[k] = false := by
    cases hs : pex ops (E k) ops[k] with
    | false => rfl
    | true => exact absurd ⟨_, ho, .inr hs⟩ hw
  obtain ⟨s, rfl⟩ := hd hns
  refine alay_look hl t fun x hx => ?_
  rw [Option.map_eq_some_iff] at hx
  obtain ⟨d, hd', hx⟩ := hx
  cases hx
  exact hw ⟨_, ho, .inl hd'⟩

theorem Tr.slots (h : Tr c call f nt ops ms E H) {t p : Nat} : ∀ {q : Nat}, p ≤ q → q ≤ ops.size → (∀ j, Wr ops E j t → ¬ (p ≤ j ∧ j < q)) → alook (E q) t = alook (E p) t
  | 0, hp, _, _ => by have : p = 0 := by omega
                      rw [this]
  | q + 1, hp, hq, hw => by
    by_cases he : p = q + 1
    · rw [he]
    · rw [h.slot1 (by omega) (fun hh => hw q hh ⟨by omega, by omega⟩)]
      exact h.slots (by omega) (by omega) (fun j hj hh => hw j hj ⟨hh.1, by omega⟩)

theorem Tr.objs1 (h : Tr c call f nt ops ms E H) {k : Nat} (hk : k < ops.size) (hw : ¬ ChO ops E H k) : (H (k + 1)).objs = (H k).objs := by
  have ho : ops[k]? = some ops[k] := Array.getElem?_eq_getElem hk
  rcases h k _ ho with ⟨h1, _, _⟩ | ⟨_, _, h3⟩
  · exact Classical.byContradiction fun hne => hw ⟨_, ho, h1, hne⟩
  · rw [h3]

theorem Tr.objs (h : Tr c call f nt ops ms E H) {p : Nat} : ∀ {q : Nat}, p ≤ q → q ≤ ops.size → (∀ j, ChO ops E H j → ¬ (p ≤ j ∧ j < q)) → (H q).objs = (H p).objs
  | 0, hp, _, _ => by have : p = 0 := by omega
                      rw [this]
  | q + 1, hp, hq, hw => by
    by_cases he : p = q + 1
    · rw [he]
    · rw [h.objs1 (by omega) (fun hh => hw q hh ⟨by omega, by omega⟩)]
      exact h.objs (by omega) (by omega) (fun j hj hh => hw j hj ⟨hh.1, by omega⟩)

theorem Tr.bufs1 (h : Tr c call f nt ops ms E H) {k : Nat} (hk : k < ops.size) (hw : ¬ ChB ops E H k) : (H (k + 1)).bufs = (H k).bufs := by
  have ho : ops[k]? = some ops[k] := Array.getElem?_eq_getElem hk
  rcases h k _ ho with ⟨h1, _, _⟩ | ⟨_, _, h3⟩
  · exact Classical.byContradiction fun hne => hw ⟨_, ho, h1, hne⟩
  · rw [h3]

theorem Tr.bufs (h : Tr c call f nt ops ms E H) {p : Nat} : ∀ {q : Nat}, p ≤ q → q ≤ ops.size → (∀ j, ChB ops E H j → ¬ (p ≤ j ∧ j < q)) → (H q).bufs = (H p).bufs
  | 0, hp, _, _ => by have : p = 0 := by omega
                      rw [this]
  | q + 1, hp, hq, hw => by
    by_cases he : p = q + 1
    · rw [he]
    · rw [h.bufs1 (by omega) (fun hh => hw q hh ⟨by omega, by omega⟩)]
      exact h.bufs (by omega) (by omega) (fun j hj hh => hw j hj ⟨hh.1, by omega⟩)

/-- a box that the text's run sees was laid in the region, or no operation so far has its slot -/
theorem Tr.boxes (h : Tr c call f nt ops ms E H) : ∀ (i : Nat), i ≤ ops.size → ∀ s cs, alook (E i) s = some (.box cs) → (∃ j o, j < i ∧ ops[j]? = some o ∧ Op.lays o.op = true ∧ o.dst = some s) ∨ ∀ j o, j < i → ops[j]? = some o → o.dst ≠ some s
  | 0, _, s, cs, _ => .inr fun j o hj => by omega
  | i + 1, hi, s, cs, hs => by
    have ho : ops[i]? = some ops[i] := Array.getElem?_eq_getElem (by omega)
    obtain ⟨w, hl, hd, _, hbx⟩ := (h i _ ho).laid
    have ext : (∃ cs', alook (E i) s = some (.box cs')) → (ops[i]).dst ≠ some s → (∃ j o, j < i + 1 ∧ ops[j]? = some o ∧ Op.lays o.op = true ∧ o.dst = some s) ∨ ∀ j o, j < i + 1 → ops[j]? = some o → o.dst ≠ some s := by
      rintro ⟨cs', hc⟩ hne
      rcases h.boxes i (by omega) s cs' hc with ⟨j, o, h1, h2⟩ | h1
      · exact .inl ⟨j, o, by omega, h2⟩
      · refine .inr fun j o hj hjo => ?_
        by_cases he : j = i
        · subst he; rw [ho] at hjo; cases hjo; exact hne
        · exact h1 j o (by omega) hjo
    by_cases hw : ∃ x, w = some (s, x)
    · obtain ⟨x, rfl⟩ := hw
      have hx := alay_look_eq hl
      rw [hs] at hx
      cases hx
      rcases hbx s cs rfl with ⟨h1, h2⟩ | ⟨h1, h2⟩
      · exact .inl ⟨i, _, by omega, ho, h1, h2⟩
      · exact ext h2 (by rw [h1]; intro e; cases e)
    · have hlk := alay_look hl s (fun x hx => hw ⟨x, hx⟩)
      rw [hs] at hlk
      by_cases hds : (ops[i]).dst = some s
      · exfalso
        cases hst' : pex ops (E i) ops[i] with
        | true =>
          have hst := (pex_stores hst').1
          rcases h i _ ho with ⟨_, g2, _⟩ | ⟨_, g2, _⟩
          · unfold aop at g2
            rw [Option.bind_eq_some_iff] at g2
            obtain ⟨⟨w2, A1⟩, he, g2⟩ := g2
            cases hop : (ops[i]).op <;> rw [hop] at hst <;> simp only [Op.stores] at hst <;> try (cases hst; done)
            simp [aeff, hop, hds] at he
          · rw [hds] at g2
            have hx2 := alay_look_eq g2
            rw [hs] at hx2
            cases hx2
        | false =>
          obtain ⟨s2, rfl⟩ := hd hst'
          rw [hds] at hw
          exact hw ⟨s2, rfl⟩
      · exact ext ⟨cs, hlk.symm⟩ hds

theorem Tr.places (h : Tr c call f nt ops ms E H) (hs : Stat ops) (h0 : PlaceOk ops (E 0)) : ∀ (i : Nat), i ≤ ops.size → PlaceOk ops (E i)
  | 0, _ => h0
  | i + 1, hi => by
    have ho : ops[i]? = some ops[i] := Array.getElem?_eq_getElem (by omega)
    have ih := h.places hs h0 i (by omega)
    obtain ⟨w, hl, hd, hpl, _⟩ := (h i _ ho).laid
    intro p hp s off hps o hoo
    rcases alay_mem hl p hp with hm | hm
    · exact ih p hm s off hps o hoo
    · subst hm
      obtain ⟨d, x⟩ := p
      simp only at hps
      subst hps
      obtain ⟨t, ha, hh⟩ := hpl d s off rfl
      rcases hh with ⟨cs, hcs, rfl⟩ | ⟨off', hoff⟩
      · intro hds
        obtain ⟨j, hj⟩ := List.getElem?_of_mem hoo
        rw [Array.getElem?_toList] at hj
        obtain ⟨h1, h2⟩ := hs.addr i _ s ho ha j o hj hds
        rcases h.boxes i (by omega) s cs hcs with ⟨j', o', k1, k2, k3, k4⟩ | k1
        · obtain ⟨_, k5⟩ := hs.addr i _ s ho ha j' o' k2 k4
          rw [k3] at k5
          cases k5
        · exact k1 j o h1 hj hds
      · exact ih _ (alook_mem hoff) s off' rfl o hoo

structure Inv (ops : Array Oper) (E : Nat → AEnv) (H : Nat → AHeap) (L : Array Bool) (F : AEnv) (G : AHeap) : Prop where
  sz : L.size = ops.size
  cl : Closed ops L
  sl : ∀ t i, i ≤ ops.size → (∀ j, Wr ops E j t → (j < i ↔ L[j]? = some true)) → alook F t = alook (E i) t
  ob : ∀ i, i ≤ ops.size → (∀ j, ChO ops E H j → (j < i ↔ L[j]? = some true)) → G.objs = (H i).objs
  bf : ∀ i, i ≤ ops.size → (∀ j, ChB ops E H j → (j < i ↔ L[j]? = some true)) → G.bufs = (H i).bufs
  pl : PlaceOk ops F

theorem set_get (L : Array Bool) (k j : Nat) (hk : k < L.size) : (L.setIfInBounds k true)[j]? = some true ↔ (j = k ∨ L[j]? = some true) := by
  rw [Array.getElem?_setIfInBounds]
  split
  · rename_i h; subst h; simp [hk]
  · rename_i h
    constructor
    · exact .inr
    · rintro (h1 | h1)
      · exact absurd h1.symm h
      · exact h1

set_option maxHeartbeats 1000000 in
theorem Inv.step (h : Tr c call f nt ops ms E H) (hs : Stat ops) (hdr : adrawn ops ms) (h0 : PlaceOk ops (E 0)) {L : Array Bool} {F : AEnv} {G : AHeap} (v : Inv ops E H L F G) {k : Nat} {o : Oper} (ho : ops[k]? = some o) (hk : L[k]? ≠ some true)
    (he : ∀ e ∈ o.after, Region.binds .any e = true → L[e.on]? = some true) : ∃ F' G', astep c call f nt ops o F G = some (F', G') ∧ Inv ops E H (L.setIfInBounds k true) F' G' := by
  have hkn : k < ops.size := (Array.getElem?_eq_some_iff.1 ho).1
  have hkL : k < L.size := by rw [v.sz]; exact hkn
  have hst := h k o ho
  have self : ∀ {p : Prop}, (p → False) → (p ↔ L[k]? = some true) := fun hp => ⟨fun x => (hp x).elim, fun x => absurd x hk⟩
  have hlt : ¬ k < k := by omega
  have pord : ∀ (j : Nat) (oj : Oper), ops[j]? = some oj → pex ops (E j) oj = true → ∀ q, q < ops.size → q ≠ j → aord ops j q = true := by
    intro j oj hoj hp q hq hne
    obtain ⟨_, hps, hgj⟩ := pex_stores hp
    rcases h j oj hoj with ⟨_, _, k3⟩ | ⟨k1, _, _⟩
    · exact hdr.2 _ k3 hps q hq hne
    · rw [hgj] at k1; cases k1
  have ordw : ∀ j t, Wr ops E j t → j ≠ k → (t ∈ anames ops o ∨ pex ops (E k) o = true) → (j < k ↔ L[j]? = some true) := by
    rintro j t ⟨oj, hoj, hw⟩ hne hh
    refine ord_iff v.cl ho hk he hne ?_
    rcases hw with hw | hw
    · rcases hh with hh | hh
      · exact hs.ord j k oj o hoj ho hne ⟨t, hw, hh⟩
      · rw [aord_comm]; exact pord k o ho hh j (Array.getElem?_eq_some_iff.1 hoj).1 hne
    · exact pord j oj hoj hw k hkn (fun e => hne e.symm)
  have slk : ∀ t, (t ∈ anames ops o ∨ pex ops (E k) o = true) → alook F t = alook (E k) t := by
    intro t ht
    refine v.sl t k (by omega) fun j hj => ?_
    by_cases hjk : j = k
    · subst hjk; exact self hlt
    · exact ordw j t hj hjk ht
  have hlook : ∀ t, t ∈ o.looksAt ops → t ∈ anames ops o := fun t ht => by unfold anames; exact List.mem_append.2 (.inl ht)
  have hpk := h.places hs h0 k (by omega)
  have hag : Agree ops o (E k) F := by
    refine ⟨fun t ht => (slk t (.inl (hlook t ht))).symm, fun t ht s off hp => ?_, fun d hd _ => ?_⟩
    · refine (v.sl s k (by omega) fun j hj => ?_).symm
      by_cases hjk : j = k
      · subst hjk; exact self hlt
      · obtain ⟨oj, hoj, hw⟩ := hj
        rcases hw with hw | hw
        · exact absurd hw (hpk _ (alook_mem hp) s off rfl oj (by
            have := Array.mem_of_getElem? hoj
            simpa using this))
        · exact ord_iff v.cl ho hk he hjk (pord j oj hoj hw k hkn (fun e => hjk e.symm))
    · refine noPlaceOf_of fun p hp s off hps => ?_
      have := v.pl p hp s off hps o (by have := Array.mem_of_getElem? ho; simpa using this)
      intro e
      subst e
      exact this hd
  -- the step
  have key : ∃ w F' G', alay nt w (E k) = some (E (k + 1)) ∧ alay nt w F = some F' ∧ astep c call f nt ops o F G = some (F', G') ∧ (pex ops (E k) o = false → ∃ s, w = o.dst.map (·, s)) ∧
      (ChO ops E H k → G'.objs = (H (k + 1)).objs) ∧ (¬ ChO ops E H k → G'.objs = G.objs) ∧ (ChB ops E H k → G'.bufs = (H (k + 1)).bufs) ∧ (¬ ChB ops E H k → G'.bufs = G.bufs) ∧
      (ChO ops E H k → ∀ j, ChO ops E H j → j ≠ k → (j < k ↔ L[j]? = some true)) ∧ (ChB ops E H k → ∀ j, ChB ops E H j → j ≠ k → (j < k ↔ L[j]? = some true)) := by
    rcases hst with ⟨g1, g2, g3⟩ | ⟨g1, g2, g3⟩
    · unfold aop at g2
      rw [Option.bind_eq_some_iff] at g2
      obtain ⟨⟨w, A1⟩, ge, g2⟩ := g2
      rw [Option.map_eq_some_iff] at g2
      obtain ⟨e1, gl, g2⟩ := g2
      have hE : e1 = E (k + 1) := by cases g2; rfl
      have hH : A1 = H (k + 1) := by cases g2; rfl
      rw [hE] at gl
      rw [hH] at ge
      simp only at gl
      have chg : ∀ {j : Nat}, ChO ops E H j → ∃ m ∈ ms, m.i = j ∧ m.co ∧ (∀ oj, ops[j]? = some oj → m.u = auses (E j) f c oj) := by
        rintro j ⟨oj, hoj, hgj, hch⟩
        rcases h j oj hoj with ⟨_, _, k3⟩ | ⟨k1, _, _⟩
        · refine ⟨_, k3, rfl, hch, fun oj' h' => ?_⟩
          rw [hoj] at h'; cases h'; rfl
        · rw [hgj] at k1; cases k1
      have chgb : ∀ {j : Nat}, ChB ops E H j → ∃ m ∈ ms, m.i = j ∧ m.cb ∧ (∀ oj, ops[j]? = some oj → m.u = auses (E j) f c oj) := by
        rintro j ⟨oj, hoj, hgj, hch⟩
        rcases h j oj hoj with ⟨_, _, k3⟩ | ⟨k1, _, _⟩
        · refine ⟨_, k3, rfl, hch, fun oj' h' => ?_⟩
          rw [hoj] at h'; cases h'; rfl
        · rw [hgj] at k1; cases k1
      have oordO : (auses (E k) f c o).1 = true → ∀ j, ChO ops E H j → j ≠ k → (j < k ↔ L[j]? = some true) := by
        intro hu j hj hne
        obtain ⟨m, hm, hmi, hmc, _⟩ := chg hj
        refine ord_iff v.cl ho hk he hne ?_
        have := hdr.1 m hm _ g3 (by rw [hmi]; exact hne) (.inl ⟨hmc, hu⟩)
        rw [hmi] at this
        exact this
      have oordB : (auses (E k) f c o).2 = true → ∀ j, ChB ops E H j → j ≠ k → (j < k ↔ L[j]? = some true) := by
        intro hu j hj hne
        obtain ⟨m, hm, hmi, hmc, _⟩ := chgb hj
        refine ord_iff v.cl ho hk he hne ?_
        have := hdr.1 m hm _ g3 (by rw [hmi]; exact hne) (.inr ⟨hmc, hu⟩)
        rw [hmi] at this
        exact this
      have huse := auses_same (c := c) (f := f) hag
      have ho1 : (auses F f c o).1 = true → (H k).objs = G.objs := by
        intro hu
        rw [← huse] at hu
        refine (v.ob k (by omega) fun j hj => ?_).symm
        by_cases hjk : j = k
        · subst hjk; exact self hlt
        · exact oordO hu j hj hjk
      have hb1 : (auses F f c o).2 = true → (H k).bufs = G.bufs := by
        intro hu
        rw [← huse] at hu
        refine (v.bf k (by omega) fun j hj => ?_).symm
        by_cases hjk : j = k
        · subst hjk; exact self hlt
        · exact oordB hu j hj hjk
      obtain ⟨G', hG, fr⟩ := aeff_frame (f := f) ho1 hb1 (aeff_same hag ge)
      obtain ⟨F', hF⟩ := alay_some gl F
      have usesO : ChO ops E H k → (auses F f c o).1 = true := by
        rintro ⟨o2, ho2, _, hch⟩
        cases hu : (auses F f c o).1 with
        | true => rfl
        | false => exact absurd (fr.ob' hu).2 hch
      have usesB : ChB ops E H k → (auses F f c o).2 = true := by
        rintro ⟨o2, ho2, _, hch⟩
        cases hu : (auses F f c o).2 with
        | true => rfl
        | false => exact absurd (fr.bf' hu).2 hch
      refine ⟨w, F', G', gl, hF, ?_, fun hns => aeff_dst ge (by simpa [pex, g1] using hns), fun hc => fr.ob (usesO hc), fun hc => ?_, fun hc => fr.bf (usesB hc), fun hc => ?_, fun hc => oordO (by rw [huse]; exact usesO hc), fun hc => oordB (by rw [huse]; exact usesB hc)⟩
      · unfold astep aop
        rw [← aguard_same hag, g1]
        simp [hG, hF]
      · have hnc : (H (k + 1)).objs = (H k).objs := h.objs1 hkn hc
        cases hu : (auses F f c o).1 with
        | true => rw [fr.ob hu, hnc, ho1 hu]
        | false => exact (fr.ob' hu).1
      · have hnc : (H (k + 1)).bufs = (H k).bufs := h.bufs1 hkn hc
        cases hu : (auses F f c o).2 with
        | true => rw [fr.bf hu, hnc, hb1 hu]
        | false => exact (fr.bf' hu).1
    · obtain ⟨F', hF⟩ := alay_some g2 F
      have nO : ¬ ChO ops E H k := by rintro ⟨o2, ho2, _, hch⟩; exact hch (by rw [g3])
      have nB : ¬ ChB ops E H k := by rintro ⟨o2, ho2, _, hch⟩; exact hch (by rw [g3])
      refine ⟨_, F', G, g2, hF, ?_, fun _ => ⟨_, rfl⟩, fun hc => absurd hc nO, fun _ => rfl, fun hc => absurd hc nB, fun _ => rfl, fun hc => absurd hc nO, fun hc => absurd hc nB⟩
      unfold astep
      rw [← aguard_same hag, g1]
      simp only [Option.bind_some, Bool.false_eq_true, if_false]
      have : aput nt o.dst (.v (.tuple [])) F = some F' := hF
      rw [this]
      rfl
  obtain ⟨w, F', G', wl, wF, hstep, hdst, kO, nO, kB, nB, rO, rB⟩ := key
  refine ⟨F', G', hstep, ⟨by simpa using v.sz, fun j oj hoj hj e hem hb => ?_, fun t i hi hc => ?_, fun i hi hc => ?_, fun i hi hc => ?_, fun p hp s off hps oo hoo => ?_⟩⟩
  · rw [set_get L k j hkL] at hj
    rw [set_get L k e.on hkL]
    rcases hj with rfl | hj
    · rw [ho] at hoj; cases hoj
      exact .inr (he e hem hb)
    · exact .inr (v.cl j oj hoj hj e hem hb)
  · by_cases hwk : Wr ops E k t
    · have hki : k < i := (hc k hwk).2 ((set_get L k k hkL).2 (.inl rfl))
      have h1 : alook F' t = alook (E (k + 1)) t := by
        by_cases hw : ∃ x, w = some (t, x)
        · obtain ⟨x, rfl⟩ := hw
          rw [alay_look_eq wF, alay_look_eq wl]
        · have hne : ∀ x, w ≠ some (t, x) := fun x hx => hw ⟨x, hx⟩
          rw [alay_look wF t hne, alay_look wl t hne]
          refine slk t (.inr ?_)
          cases hso : pex ops (E k) o with
          | true => rfl
          | false =>
            obtain ⟨s, hs'⟩ := hdst hso
            obtain ⟨o2, ho2, hw2⟩ := hwk
            rw [ho] at ho2
            cases ho2
            rcases hw2 with hw2 | hw2
            · rw [hw2] at hs'; exact absurd hs' (hne s)
            · rw [hso] at hw2; cases hw2
      rw [h1]
      refine (h.slots (p := k + 1) (q := i) (by omega) hi fun j hj hh => ?_).symm
      have hjk : j ≠ k := by omega
      have hl : L[j]? = some true := by
        rcases (set_get L k j hkL).1 ((hc j hj).1 hh.2) with h2 | h2
        · exact absurd h2 hjk
        · exact h2
      obtain ⟨o2, ho2, hw2⟩ := hwk
      rw [ho] at ho2
      cases ho2
      have : j < k := (ordw j t hj hjk (by
        rcases hw2 with hw2 | hw2
        · refine .inl ?_
          unfold anames
          rw [hw2]
          simp
        · exact .inr hw2)).2 hl
      omega
    · have hne : ∀ x, w ≠ some (t, x) := by
        intro x hx
        have hso : pex ops (E k) o = false := by
          cases hso : pex ops (E k) o with
          | false => rfl
          | true => exact absurd ⟨o, ho, .inr hso⟩ hwk
        obtain ⟨s, rfl⟩ := hdst hso
        rw [Option.map_eq_some_iff] at hx
        obtain ⟨d, hd, hx⟩ := hx
        cases hx
        exact hwk ⟨o, ho, .inl hd⟩
      rw [alay_look wF t hne]
      refine v.sl t i hi fun j hj => ?_
      have hjk : j ≠ k := fun e => hwk (e ▸ hj)
      rw [hc j hj, set_get L k j hkL]
      exact ⟨fun h2 => h2.resolve_left hjk, .inr⟩
  · by_cases hck : ChO ops E H k
    · have hki : k < i := (hc k hck).2 ((set_get L k k hkL).2 (.inl rfl))
      rw [kO hck]
      refine (h.objs (p := k + 1) (q := i) (by omega) hi fun j hj hh => ?_).symm
      have hjk : j ≠ k := by omega
      have hl : L[j]? = some true := by
        rcases (set_get L k j hkL).1 ((hc j hj).1 hh.2) with h2 | h2
        · exact absurd h2 hjk
        · exact h2
      have : j < k := (rO hck j hj hjk).2 hl
      omega
    · rw [nO hck]
      refine v.ob i hi fun j hj => ?_
      have hjk : j ≠ k := fun e => hck (e ▸ hj)
      rw [hc j hj, set_get L k j hkL]
      exact ⟨fun h2 => h2.resolve_left hjk, .inr⟩
  · by_cases hck : ChB ops E H k
    · have hki : k < i := (hc k hck).2 ((set_get L k k hkL).2 (.inl rfl))
      rw [kB hck]
      refine (h.bufs (p := k + 1) (q := i) (by omega) hi fun j hj hh => ?_).symm
      have hjk : j ≠ k := by omega
      have hl : L[j]? = some true := by
        rcases (set_get L k j hkL).1 ((hc j hj).1 hh.2) with h2 | h2
        · exact absurd h2 hjk
        · exact h2
      have : j < k := (rB hck j hj hjk).2 hl
      omega
    · rw [nB hck]
      refine v.bf i hi fun j hj => ?_
      have hjk : j ≠ k := fun e => hck (e ▸ hj)
      rw [hc j hj, set_get L k j hkL]
      exact ⟨fun h2 => h2.resolve_left hjk, .inr⟩
  · rcases alay_mem wF p hp with hm | hm
    · exact v.pl p hm s off hps oo hoo
    · subst hm
      exact h.places hs h0 (k + 1) (by omega) p (alay_in wl) s off hps oo hoo

end
end Go.Abs
