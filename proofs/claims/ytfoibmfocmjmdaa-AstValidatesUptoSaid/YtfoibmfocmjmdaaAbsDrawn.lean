/- A region that draws its order: whatever the order, the slots and the heap come out as in the text's order. -/
import Derived.Test.YtfoibmfocmjmdaaAbsFrame
set_option linter.unusedVariables false
set_option linter.unusedSimpArgs false
set_option linter.all false
set_option linter.deprecated false
namespace Go.Abs

section
variable {c : ACtx} {call : FuncId → AFun} {f : FuncId} {nt : Nat} {ops : Array Oper}

/-! which operations come ahead -/
def bits (acc : Array Nat) (o : Oper) : Nat := o.after.foldl (fun s e => if Region.binds .any e then s ||| 2 ^ e.on ||| acc.getD e.on 0 else s) 0

theorem bits_spec {acc : Array Nat} {o : Oper} {i : Nat} (h : (bits acc o).testBit i = true) : ∃ e ∈ o.after, Region.binds .any e = true ∧ (e.on = i ∨ (acc.getD e.on 0).testBit i = true) := by
  have key : ∀ (l : List Edge) (s : Nat), ((l.foldl (fun s e => if Region.binds .any e then s ||| 2 ^ e.on ||| acc.getD e.on 0 else s) s).testBit i = true) →
      s.testBit i = true ∨ ∃ e ∈ l, Region.binds .any e = true ∧ (e.on = i ∨ (acc.getD e.on 0).testBit i = true) := by
    intro l
    induction l with
    | nil => intro s h; exact .inl h
    | cons e l ih =>
      intro s h
      rw [List.foldl_cons] at h
      rcases ih _ h with h1 | ⟨e', he', h1⟩
      · split at h1
        · rename_i hb
          rw [Nat.testBit_or, Nat.testBit_or, Bool.or_eq_true, Bool.or_eq_true] at h1
          rcases h1 with (h1 | h1) | h1
          · exact .inl h1
          · rw [Nat.testBit_two_pow] at h1
            exact .inr ⟨e, List.mem_cons_self, hb, .inl (by simpa using h1)⟩
          · exact .inr ⟨e, List.mem_cons_self, hb, .inr h1⟩
        · exact .inl h1
      · exact .inr ⟨e', List.mem_cons_of_mem _ he', h1⟩
  unfold bits at h
  rw [← Array.foldl_toList] at h
  rcases key _ _ h with h1 | ⟨e, he, h1⟩
  · simp at h1
  · exact ⟨e, by simpa using he, h1⟩

theorem fold_spec : ∀ (l : List Oper) (acc : Array Nat), ∃ R, R = l.foldl (fun acc o => acc.push (bits acc o)) acc ∧ R.size = acc.size + l.length ∧ (∀ k, k < acc.size → R[k]? = acc[k]?) ∧
    ∀ (m : Nat) (o : Oper), l[m]? = some o → ∃ am : Array Nat, am.size = acc.size + m ∧ (∀ k, k < acc.size + m → R[k]? = am[k]?) ∧ R[acc.size + m]? = some (bits am o)
  | [], acc => ⟨acc, rfl, rfl, fun _ _ => rfl, fun m o h => by simp at h⟩
  | x :: l, acc => by
    obtain ⟨R, hR, hs, hp, hm⟩ := fold_spec l (acc.push (bits acc x))
    simp only [Array.size_push] at hs hp hm
    refine ⟨R, by rw [hR]; rfl, by simp; omega, fun k hk => by rw [hp k (by omega), Array.getElem?_push_lt (by omega), Array.getElem?_eq_getElem hk], fun m o ho => ?_⟩
    cases m with
    | zero =>
      simp at ho
      subst ho
      refine ⟨acc, rfl, fun k hk => ?_, ?_⟩
      · rw [hp k (by omega), Array.getElem?_push_lt (by omega), Array.getElem?_eq_getElem (by omega)]
      · rw [Nat.add_zero, hp _ (by omega), Array.getElem?_push_size]
    | succ m =>
      obtain ⟨am, h1, h2, h3⟩ := hm m o (by simpa using ho)
      exact ⟨am, by omega, fun k hk => h2 k (by omega), by rw [← h3]; congr 1; omega⟩

theorem before_spec {j i : Nat} (h : ((Region.before ops).getD j 0).testBit i = true) :
    ∃ o e, ops[j]? = some o ∧ e ∈ o.after ∧ Region.binds .any e = true ∧ (e.on = i ∨ (e.on < j ∧ ((Region.before ops).getD e.on 0).testBit i = true)) := by
  have hb : Region.before ops = ops.toList.foldl (fun acc o => acc.push (bits acc o)) #[] := by
    unfold Region.before bits
    rw [← Array.foldl_toList]
  obtain ⟨R, hR, hs, _, hm⟩ := fold_spec ops.toList #[]
  rw [hb, ← hR] at h ⊢
  simp only [List.size_toArray, List.length_nil, Nat.zero_add, Array.length_toList] at hs hm
  have hj : j < R.size := by
    rcases Nat.lt_or_ge j R.size with h' | h'
    · exact h'
    · rw [Array.getD_eq_getD_getElem?, Array.getElem?_eq_none h'] at h
      simp at h
  have hjo : ops.toList[j]? = some (ops[j]'(by omega)) := by rw [Array.getElem?_toList, Array.getElem?_eq_getElem]
  obtain ⟨am, h1, h2, h3⟩ := hm j _ hjo
  rw [Array.getD_eq_getD_getElem?, h3] at h
  obtain ⟨e, he, hbn, h4⟩ := bits_spec h
  refine ⟨_, e, by rw [← Array.getElem?_toList]; exact hjo, he, hbn, ?_⟩
  rcases h4 with h4 | h4
  · exact .inl h4
  · refine .inr ?_
    rcases Nat.lt_or_ge e.on j with hlt | hge
    · refine ⟨hlt, ?_⟩
      rw [Array.getD_eq_getD_getElem?, h2 _ hlt, ← Array.getD_eq_getD_getElem?]
      exact h4
    · rw [Array.getD_eq_getD_getElem?, Array.getElem?_eq_none (by omega)] at h4
      simp at h4

/-- whatever binds an operation of the list is on the list -/
def Closed (ops : Array Oper) (L : Array Bool) : Prop := ∀ (j : Nat) (o : Oper), ops[j]? = some o → L[j]? = some true → ∀ e ∈ o.after, Region.binds .any e = true → L[e.on]? = some true

theorem before_listed {L : Array Bool} (hc : Closed ops L) : ∀ (j : Nat) (i : Nat) (o : Oper), ops[j]? = some o → (∀ e ∈ o.after, Region.binds .any e = true → L[e.on]? = some true) → ((Region.before ops).getD j 0).testBit i = true → L[i]? = some true := by
  intro j
  induction j using Nat.strongRecOn with
  | ind j ih =>
    intro i o ho he h
    obtain ⟨o', e, ho', hmem, hb, h1⟩ := before_spec h
    rw [ho] at ho'
    cases ho'
    have hl := he e hmem hb
    rcases h1 with rfl | ⟨hlt, h1⟩
    · exact hl
    · obtain ⟨o2, e2, ho2, _⟩ := before_spec h1
      exact ih e.on hlt i o2 ho2 (hc _ _ ho2 hl) h1

theorem aord_comm (i j : Nat) : aord ops i j = aord ops j i := by
  unfold aord
  rw [Nat.max_comm, Nat.min_comm]

/-- k can be done now: what is ordered with it is on the list exactly if it comes ahead in the text -/
theorem ord_iff {L : Array Bool} (hc : Closed ops L) {k j : Nat} {o : Oper} (ho : ops[k]? = some o) (hk : L[k]? ≠ some true) (he : ∀ e ∈ o.after, Region.binds .any e = true → L[e.on]? = some true) (hne : j ≠ k) (h : aord ops j k = true) :
    (j < k ↔ L[j]? = some true) := by
  unfold aord at h
  rcases Nat.lt_or_gt_of_ne hne with hlt | hgt
  · rw [Nat.max_eq_right (by omega), Nat.min_eq_left (by omega)] at h
    exact ⟨fun _ => before_listed hc k j o ho he h, fun _ => hlt⟩
  · rw [Nat.max_eq_left (by omega), Nat.min_eq_right (by omega)] at h
    refine ⟨fun h' => by omega, fun hl => absurd ?_ hk⟩
    obtain ⟨o2, e2, ho2, _⟩ := before_spec h
    exact before_listed hc j k o2 ho2 (hc _ _ ho2 hl) h

/-! what the static look at a region says -/
structure Stat (ops : Array Oper) : Prop where
  edge : ∀ (i : Nat) (x : Oper), ops[i]? = some x → ∀ e ∈ x.after, Region.binds .any e = true → e.on < i
  ord : ∀ (i j : Nat) (x y : Oper), ops[i]? = some x → ops[j]? = some y → i ≠ j → (∃ d, x.dst = some d ∧ d ∈ anames ops y) → aord ops i j = true
  addr : ∀ (i : Nat) (x : Oper) (t : Nat), ops[i]? = some x → Op.addrOf x.op = some t → ∀ (j : Nat) (y : Oper), ops[j]? = some y → y.dst = some t → j < i ∧ Op.lays y.op = false

theorem stat_of (h : adrawStatic ops = true) : Stat ops := by
  unfold adrawStatic at h
  simp only [Bool.and_eq_true, List.all_eq_true] at h
  obtain ⟨h1, h2⟩ := h
  have mem : ∀ {i : Nat} {x : Oper}, ops[i]? = some x → (x, i) ∈ ops.toList.zipIdx := by
    intro i x hx
    rw [List.mk_mem_zipIdx_iff_getElem?, Array.getElem?_toList]
    exact hx
  refine ⟨fun i x hx e he hb => ?_, fun i j x y hx hy hne hh => ?_, fun i x t hx ht j y hy hd => ?_⟩
  · have := h1 _ (mem hx)
    simp only [Bool.and_eq_true, Array.all_eq_true'] at this
    have := this.1 e he
    simpa [hb] using this
  · have := h1 _ (mem hx)
    simp only [Bool.and_eq_true, List.all_eq_true] at this
    have := this.2 _ (mem hy)
    simp only [Bool.or_eq_true, beq_iff_eq] at this
    rcases this with (h3 | h3) | h3
    · exact absurd h3 hne
    · obtain ⟨d, hd, hm⟩ := hh
      rw [hd] at h3
      simp at h3
      exact absurd hm h3
    · exact h3
  · have := h2 _ (mem hx)
    simp only [ht, List.all_eq_true] at this
    have := this _ (mem hy)
    simp only [hd, Bool.or_eq_true, bne_self_eq_false, Bool.false_eq_true, false_or, Bool.and_eq_true, decide_eq_true_eq, Bool.not_eq_true'] at this
    exact this

/-! the run in the text's order -/
/-- it is done, and writes a box of the frame's own -/
def pex (ops : Array Oper) (E : AEnv) (o : Oper) : Bool :=
  match aguard ops E o with
  | some true => pstore E o
  | _ => false

theorem pex_stores {E : AEnv} {o : Oper} (h : pex ops E o = true) : Op.stores o.op = true ∧ pstore E o = true ∧ aguard ops E o = some true := by
  unfold pex at h
  split at h
  · rename_i hg
    refine ⟨?_, h, hg⟩
    unfold pstore at h
    split at h
    · rename_i hop; rw [hop]; rfl
    · cases h
  · cases h

def TStep (c : ACtx) (call : FuncId → AFun) (f : FuncId) (nt : Nat) (ops : Array Oper) (ms : List AMark) (k : Nat) (o : Oper) (E : AEnv) (H : AHeap) (E' : AEnv) (H' : AHeap) : Prop :=
  (aguard ops E o = some true ∧ aop c call f nt o E H = some (E', H') ∧ (⟨k, auses E f c o, pstore E o, H'.objs ≠ H.objs, H'.bufs ≠ H.bufs⟩ : AMark) ∈ ms) ∨
  (aguard ops E o = some false ∧ aput nt o.dst (.v (.tuple [])) E = some E' ∧ H' = H)

theorem TStep.mono {ms ms' : List AMark} {k : Nat} {o : Oper} {E E' : AEnv} {H H' : AHeap} (h : TStep c call f nt ops ms k o E H E' H') (hm : ∀ m ∈ ms, m ∈ ms') : TStep c call f nt ops ms' k o E H E' H' := by
  rcases h with ⟨h1, h2, h3⟩ | h
  · exact .inl ⟨h1, h2, hm _ h3⟩
  · exact .inr h

theorem trace_spec : ∀ (l : List Oper) (i : Nat) (env : AEnv) (A : AHeap) (env' : AEnv) (A' : AHeap) (ms : List AMark), atrace c call f nt ops i l env A = some ((env', A'), ms) →
    ∃ (E : Nat → AEnv) (H : Nat → AHeap), E i = env ∧ H i = A ∧ E (i + l.length) = env' ∧ H (i + l.length) = A' ∧ ∀ (m : Nat) (o : Oper), l[m]? = some o → TStep c call f nt ops ms (i + m) o (E (i + m)) (H (i + m)) (E (i + m + 1)) (H (i + m + 1))
  | [], i, env, A, env', A', ms, h => by
    simp only [atrace] at h
    cases h
    exact ⟨fun _ => env, fun _ => A, rfl, rfl, rfl, rfl, fun m o ho => by simp at ho⟩
  | o :: l, i, env, A, env', A', ms, h => by
    simp only [atrace, Option.bind_eq_some_iff] at h
    obtain ⟨b, hb, h⟩ := h
    have fin : ∀ (env1 : AEnv) (A1 : AHeap) (ms1 : List AMark), atrace c call f nt ops (i + 1) l env1 A1 = some ((env', A'), ms1) → (∀ m ∈ ms1, m ∈ ms) → TStep c call f nt ops ms i o env A env1 A1 →
        ∃ (E : Nat → AEnv) (H : Nat → AHeap), E i = env ∧ H i = A ∧ E (i + (o :: l).length) = env' ∧ H (i + (o :: l).length) = A' ∧ ∀ (m : Nat) (o' : Oper), (o :: l)[m]? = some o' → TStep c call f nt ops ms (i + m) o' (E (i + m)) (H (i + m)) (E (i + m + 1)) (H (i + m + 1)) := by
      intro env1 A1 ms1 hr hsub hst
      obtain ⟨E, H, e1, e2, e3, e4, e5⟩ := trace_spec l (i + 1) env1 A1 env' A' ms1 hr
      refine ⟨fun k => if k = i then env else E k, fun k => if k = i then A else H k, by simp, by simp, ?_, ?_, fun m o' ho => ?_⟩
      · have : ¬ i + (o :: l).length = i := by simp
        simp only [this, if_false]
        rw [← e3]; congr 1; simp; omega
      · have : ¬ i + (o :: l).length = i := by simp
        simp only [this, if_false]
        rw [← e4]; congr 1; simp; omega
      · cases m with
        | zero =>
          simp at ho
          subst ho
          simp only [Nat.add_zero, if_true]
          have : ¬ i + 1 = i := by omega
          simp only [this, if_false, e1, e2]
          exact hst
        | succ m =>
          have h1 : ¬ i + (m + 1) = i := by omega
          have h2 : ¬ i + (m + 1) + 1 = i := by omega
          simp only [h1, h2, if_false]
          have := (e5 m o' (by simpa using ho)).mono hsub
          have e : i + 1 + m = i + (m + 1) := by omega
          rw [e] at this
          exact this
    cases b with
    | true =>
      simp only [if_true, Option.bind_eq_some_iff, Option.map_eq_some_iff] at h
      obtain ⟨⟨env1, A1⟩, ho, ⟨⟨env2, A2⟩, ms1⟩, hr, h⟩ := h
      cases h
      exact fin env1 A1 ms1 hr (fun m hm => List.mem_cons_of_mem _ hm) (.inl ⟨hb, ho, List.mem_cons_self⟩)
    | false =>
      simp only [Bool.false_eq_true, if_false, Option.bind_eq_some_iff] at h
      obtain ⟨env1, ho, h⟩ := h
      exact fin env1 A ms h (fun m hm => hm) (.inr ⟨hb, ho, rfl⟩)

/-- places name boxes that the region does not lay -/
def PlaceOk (ops : Array Oper) (env : AEnv) : Prop := ∀ p ∈ env, ∀ s off, p.2 = .place s off → ∀ o ∈ ops.toList, o.dst ≠ some s

theorem dropKey_mem {t : Nat} : ∀ {env : AEnv} {p : Nat × Slot}, p ∈ dropKey t env → p ∈ env
  | [], p, h => h
  | (s, x) :: l, p, h => by
    unfold dropKey at h
    split at h
    · exact List.mem_cons_of_mem _ (dropKey_mem h)
    · cases h with
      | head => exact List.mem_cons_self
      | tail _ h => exact List.mem_cons_of_mem _ (dropKey_mem h)

theorem dropKey_look {t q : Nat} {x : Slot} : ∀ {env : AEnv}, alook (dropKey t env) q = some x → q ≠ t ∧ alook env q = some x
  | [], h => by cases h
  | (s, y) :: l, h => by
    unfold dropKey at h
    split at h
    · rename_i hs
      obtain ⟨h1, h2⟩ := dropKey_look h
      refine ⟨h1, ?_⟩
      rw [alook, if_neg (by omega)]
      exact h2
    · rename_i hs
      rw [alook] at h
      split at h
      · rename_i hq
        subst hq
        exact ⟨hs, by rw [alook, if_pos rfl]; exact h⟩
      · rename_i hq
        obtain ⟨h1, h2⟩ := dropKey_look h
        exact ⟨h1, by rw [alook, if_neg hq]; exact h2⟩

theorem noPlaces_look {q : Nat} {x : Slot} : ∀ {env : AEnv}, alook (noPlaces env) q = some x → alook env q = some x
  | [], h => by cases h
  | (s, y) :: l, h => by
    unfold noPlaces at h
    split at h
    · obtain ⟨h1, h2⟩ := dropKey_look h
      rw [alook, if_neg (by omega)]
      exact noPlaces_look h2
    · rw [alook] at h ⊢
      split
      · rename_i hs; rw [if_pos hs] at h; exact h
      · rename_i hs; rw [if_neg hs] at h; exact noPlaces_look h

theorem noPlaces_ok : ∀ (env : AEnv), PlaceOk ops (noPlaces env)
  | [] => fun p hp => by cases hp
  | (t, x) :: l => by
    unfold noPlaces
    split
    · exact fun p hp => noPlaces_ok l p (dropKey_mem hp)
    · rename_i hx
      intro p hp s off he
      cases hp with
      | head => simp only at he; rw [he] at hx; exact absurd rfl hx
      | tail _ h => exact noPlaces_ok l p h s off he

theorem alook_mem : ∀ {env : AEnv} {t : Nat} {x : Slot}, alook env t = some x → (t, x) ∈ env
  | [], t, x, h => by cases h
  | (s, y) :: l, t, x, h => by
    simp only [alook] at h
    split at h
    · rename_i hs; cases h; subst hs; exact List.mem_cons_self
    · exact List.mem_cons_of_mem _ (alook_mem h)

theorem noPlaceOf_of {d : Nat} : ∀ {env : AEnv}, (∀ p ∈ env, ∀ s off, p.2 = .place s off → s ≠ d) → noPlaceOf d env = true
  | [], _ => rfl
  | (t, .v x) :: l, h => by
    simp only [noPlaceOf]
    exact noPlaceOf_of fun p hp => h p (List.mem_cons_of_mem _ hp)
  | (t, .box x) :: l, h => by
    simp only [noPlaceOf]
    exact noPlaceOf_of fun p hp => h p (List.mem_cons_of_mem _ hp)
  | (t, .place s off) :: l, h => by
    simp only [noPlaceOf, Bool.and_eq_true, bne_iff_ne]
    exact ⟨h _ List.mem_cons_self s off rfl, noPlaceOf_of fun p hp => h p (List.mem_cons_of_mem _ hp)⟩

/-! what an operation writes -/
theorem aeff_dst {o : Oper} {E : AEnv} {H H' : AHeap} {w : Option (Nat × Slot)} (h : aeff c call f o E H = some (w, H')) (hs : pstore E o = false) : ∃ s, w = o.dst.map (·, s) := by
  have gen : ∀ {op : Op}, (aslot c call E H op).map (fun r => (o.dst.map (·, r.1), r.2)) = some (w, H') → ∃ s, w = o.dst.map (·, s) := by
    intro op h
    rw [Option.map_eq_some_iff] at h
    obtain ⟨r, _, h⟩ := h
    cases h
    exact ⟨r.1, rfl⟩
  cases hop : o.op
  case store t x y =>
    simp only [pstore, hop] at hs
    simp only [aeff, hop] at h
    split at h
    · cases h
    rename_i hd
    rw [Option.bind_eq_some_iff] at h
    obtain ⟨v, hv, h⟩ := h
    split at h
    case isFalse => cases h
    split at h
    · rename_i s off hp
      rw [hp] at hs
      cases hs
    · rw [Option.bind_eq_some_iff] at h
      obtain ⟨p, hp, h⟩ := h
      rw [Option.map_eq_some_iff] at h
      obtain ⟨H1, _, h⟩ := h
      cases h
      exact ⟨.place 0 0, by rw [hd]; rfl⟩
  case alloc t =>
    simp only [aeff, hop] at h
    split at h
    · rename_i z d hz hd
      split at h
      · cases h; exact ⟨_, by rw [hd]; rfl⟩
      · split at h
        · cases h; exact ⟨_, by rw [hd]; rfl⟩
        · cases h
    · cases h
  case box t x =>
    simp only [aeff, hop] at h
    split at h
    · rename_i z d hz hd
      split at h
      · cases h; exact ⟨_, by rw [hd]; rfl⟩
      · split at h
        · cases h; exact ⟨_, by rw [hd]; rfl⟩
        · cases h
    · cases h
  all_goals
    simp only [aeff, hop] at h
    exact gen h

theorem aplace_cases {E : AEnv} {x : Operand} {s off : Nat} (h : aplace E x = some (s, off)) : ∃ t, x = .tmp t ∧ ((∃ cs, alook E t = some (.box cs) ∧ s = t) ∨ ∃ off', alook E t = some (.place s off')) := by
  cases x with
  | tmp t =>
    refine ⟨t, rfl, ?_⟩
    simp only [aplace] at h
    split at h
    · rename_i cs hc; cases h; exact .inl ⟨cs, hc, rfl⟩
    · rename_i s' off' hc; cases h; exact .inr ⟨_, hc⟩
    · cases h
  | _ => simp [aplace] at h

theorem aeff_place {o : Oper} {E : AEnv} {H H' : AHeap} {d s off : Nat} (h : aeff c call f o E H = some (some (d, .place s off), H')) :
    ∃ t, Op.addrOf o.op = some t ∧ ((∃ cs, alook E t = some (.box cs) ∧ s = t) ∨ ∃ off', alook E t = some (.place s off')) := by
  have gen : ∀ {op : Op}, (aval1 c call E H op).map (fun r => (o.dst.map (·, Slot.v r.1), r.2)) = some (some (d, .place s off), H') → False := by
    intro op h
    rw [Option.map_eq_some_iff] at h
    obtain ⟨r, _, h⟩ := h
    cases hd : o.dst with
    | none => rw [hd] at h; cases h
    | some q => rw [hd] at h; simp at h
  cases hop : o.op
  case alloc t =>
    simp only [aeff, hop] at h
    split at h
    · split at h
      · cases h
      · split at h <;> cases h
    · cases h
  case box t x =>
    simp only [aeff, hop] at h
    split at h
    · split at h
      · cases h
      · split at h <;> cases h
    · cases h
  case store t x y =>
    simp only [aeff, hop] at h
    split at h
    · cases h
    rw [Option.bind_eq_some_iff] at h
    obtain ⟨v, hv, h⟩ := h
    split at h
    case isFalse => cases h
    split at h
    · rw [Option.bind_eq_some_iff] at h
      obtain ⟨cs, hcs, h⟩ := h
      rw [Option.map_eq_some_iff] at h
      obtain ⟨cs', _, h⟩ := h
      cases h
    · rw [Option.bind_eq_some_iff] at h
      obtain ⟨cs, hcs, h⟩ := h
      rw [Option.map_eq_some_iff] at h
      obtain ⟨cs', _, h⟩ := h
      cases h
  case load t x =>
    simp only [aeff, hop, aslot, Option.map_eq_some_iff] at h
    obtain ⟨r, hr, h⟩ := h
    exfalso
    split at hr
    case h_2 => cases hr
    split at hr
    · rw [Option.bind_eq_some_iff] at hr
      obtain ⟨cs, _, hr⟩ := hr
      rw [Option.map_eq_some_iff] at hr
      obtain ⟨v, _, hr⟩ := hr
      subst hr
      cases hd : o.dst <;> rw [hd] at h <;> simp at h
    · rw [Option.bind_eq_some_iff] at hr
      obtain ⟨cs, _, hr⟩ := hr
      rw [Option.map_eq_some_iff] at hr
      obtain ⟨v, _, hr⟩ := hr
      subst hr
      cases hd : o.dst <;> rw [hd] at h <;> simp at h
  case fieldAddr t x i =>
    simp only [aeff, hop, aslot, Option.map_eq_some_iff] at h
    obtain ⟨r, hr, h⟩ := h
    split at hr
    case h_2 => cases hr
    split at hr
    · cases hr
    split at hr
    · rename_i s' o' hp
      cases hr
      cases hd : o.dst <;> rw [hd] at h <;> simp at h
      obtain ⟨⟨_, rfl, _⟩, _⟩ := h
      obtain ⟨t', rfl, hh⟩ := aplace_cases hp
      exact ⟨t', rfl, hh⟩
    · split at hr <;> cases hr <;> (cases hd : o.dst <;> rw [hd] at h <;> simp at h)
  case indexAddr t x i =>
    simp only [aeff, hop, aslot, Option.map_eq_some_iff] at h
    obtain ⟨r, hr, h⟩ := h
    split at hr
    case h_2 => cases hr
    split at hr
    · split at hr
      case h_2 => cases hr
      rename_i s' o' hp
      split at hr
      case isFalse => cases hr
      cases hr
      cases hd : o.dst <;> rw [hd] at h <;> simp at h
      obtain ⟨⟨_, rfl, _⟩, _⟩ := h
      obtain ⟨t', rfl, hh⟩ := aplace_cases hp
      exact ⟨t', rfl, hh⟩
    · split at hr
      case h_2 => cases hr
      rw [Option.map_eq_some_iff] at hr
      obtain ⟨p, _, hr⟩ := hr
      subst hr
      cases hd : o.dst <;> rw [hd] at h <;> simp at h
  all_goals
    simp only [aeff, hop, aslot, Option.map_map] at h
    exact (gen (op := o.op) (by rw [hop]; simpa only [Function.comp_def] using h)).elim

theorem aeff_box {o : Oper} {E : AEnv} {H H' : AHeap} {d : Nat} {cs : List AV} (h : aeff c call f o E H = some (some (d, .box cs), H')) : (Op.lays o.op = true ∧ o.dst = some d) ∨ (o.dst = none ∧ ∃ cs', alook E d = some (.box cs')) := by
  have gen : ∀ {op : Op}, (aval1 c call E H op).map (fun r => (o.dst.map (·, Slot.v r.1), r.2)) = some (some (d, .box cs), H') → False := by
    intro op h
    rw [Option.map_eq_some_iff] at h
    obtain ⟨r, _, h⟩ := h
    cases hd : o.dst with
    | none => rw [hd] at h; cases h
    | some q => rw [hd] at h; simp at h
  cases hop : o.op
  case alloc t =>
    simp only [aeff, hop] at h
    split at h
    · rename_i z d' hz hd
      split at h
      · cases h
      · split at h <;> cases h
        exact .inl ⟨rfl, hd⟩
    · cases h
  case box t x =>
    simp only [aeff, hop] at h
    split at h
    · rename_i z d' hz hd
      split at h
      · cases h
      · split at h <;> cases h
        exact .inl ⟨rfl, hd⟩
    · cases h
  case store t x y =>
    simp only [aeff, hop] at h
    split at h
    · cases h
    rename_i hdn
    rw [Option.bind_eq_some_iff] at h
    obtain ⟨v, hv, h⟩ := h
    split at h
    case isFalse => cases h
    split at h
    · rw [Option.bind_eq_some_iff] at h
      obtain ⟨cs1, hcs, h⟩ := h
      rw [Option.map_eq_some_iff] at h
      obtain ⟨cs', _, h⟩ := h
      cases h
      refine .inr ⟨hdn, cs1, ?_⟩
      unfold abox at hcs
      split at hcs
      · rename_i hh; cases hcs; exact hh
      · cases hcs
    · rw [Option.bind_eq_some_iff] at h
      obtain ⟨cs, hcs, h⟩ := h
      rw [Option.map_eq_some_iff] at h
      obtain ⟨cs', _, h⟩ := h
      cases h
  case load t x =>
    simp only [aeff, hop, aslot, Option.map_eq_some_iff] at h
    obtain ⟨r, hr, h⟩ := h
    exfalso
    split at hr
    case h_2 => cases hr
    split at hr
    · rw [Option.bind_eq_some_iff] at hr
      obtain ⟨cs, _, hr⟩ := hr
      rw [Option.map_eq_some_iff] at hr
      obtain ⟨v, _, hr⟩ := hr
      subst hr
      cases hd : o.dst <;> rw [hd] at h <;> simp at h
    · rw [Option.bind_eq_some_iff] at hr
      obtain ⟨cs, _, hr⟩ := hr
      rw [Option.map_eq_some_iff] at hr
      obtain ⟨v, _, hr⟩ := hr
      subst hr
      cases hd : o.dst <;> rw [hd] at h <;> simp at h
  case fieldAddr t x i =>
    simp only [aeff, hop, aslot, Option.map_eq_some_iff] at h
    obtain ⟨r, hr, h⟩ := h
    exfalso
    split at hr
    case h_2 => cases hr
    split at hr
    · cases hr
    split at hr
    · cases hr
      cases hd : o.dst <;> rw [hd] at h <;> simp at h
    · split at hr <;> cases hr <;> (cases hd : o.dst <;> rw [hd] at h <;> simp at h)
  case indexAddr t x i =>
    simp only [aeff, hop, aslot, Option.map_eq_some_iff] at h
    obtain ⟨r, hr, h⟩ := h
    exfalso
    split at hr
    case h_2 => cases hr
    split at hr
    · split at hr
      case h_2 => cases hr
      split at hr
      case isFalse => cases hr
      cases hr
      cases hd : o.dst <;> rw [hd] at h <;> simp at h
    · split at hr
      case h_2 => cases hr
      rw [Option.map_eq_some_iff] at hr
      obtain ⟨p, _, hr⟩ := hr
      subst hr
      cases hd : o.dst <;> rw [hd] at h <;> simp at h
  all_goals
    simp only [aeff, hop, aslot, Option.map_map] at h
    exact (gen (op := o.op) (by rw [hop]; simpa only [Function.comp_def] using h)).elim

end
end Go.Abs
