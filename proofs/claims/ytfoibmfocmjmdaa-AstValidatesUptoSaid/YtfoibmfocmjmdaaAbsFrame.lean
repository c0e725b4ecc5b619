/- What an operation of the abstract machine depends on, and what it leaves alone. -/
import Derived.Test.YtfoibmfocmjmdaaAbs
set_option linter.unusedVariables false
set_option linter.unusedSimpArgs false
set_option linter.all false
set_option linter.deprecated false
namespace Go.Abs

section
variable {c : ACtx} {call : FuncId → AFun} {f : FuncId} {nt : Nat} {E F : AEnv} {A H G H' : AHeap}

/-! the slots -/
theorem aeval_same {x : Operand} (h : ∀ t, x = .tmp t → alook E t = alook F t) : aeval E x = aeval F x := by
  cases x with
  | tmp t => simp only [aeval, h t rfl]
  | _ => rfl

theorem aplace_same {x : Operand} (h : ∀ t, x = .tmp t → alook E t = alook F t) : aplace E x = aplace F x := by
  cases x with
  | tmp t => simp only [aplace, h t rfl]
  | _ => rfl

theorem aevals_same : ∀ {xs : List Operand}, (∀ x ∈ xs, aeval E x = aeval F x) → aevals E xs = aevals F xs
  | [], _ => rfl
  | x :: xs, h => by
    have ih : aevals E xs = aevals F xs := aevals_same fun y hy => h y (List.mem_cons_of_mem _ hy)
    simp only [aevals, h x List.mem_cons_self, ih]

theorem aparts_same : ∀ {ps : List (Nat × Operand)}, (∀ x ∈ ps.map (·.2), aeval E x = aeval F x) → aparts E ps = aparts F ps
  | [], _ => rfl
  | (i, x) :: ps, h => by
    have ih : aparts E ps = aparts F ps := aparts_same fun y hy => h y (by rw [List.map_cons]; exact List.mem_cons_of_mem _ hy)
    have hx := h x (by rw [List.map_cons]; exact List.mem_cons_self)
    simp only [aparts, hx, ih]

theorem aval1_same {op : Op} (h : ∀ x ∈ op.operands.toList, aeval E x = aeval F x) : aval1 c call E A op = aval1 c call F A op := by
  cases op
  case build t parts => simp only [aval1, aparts_same (E := E) (F := F) (ps := parts.toList) (by simpa [Op.operands] using h)]
  case buildSlice t n parts => simp only [aval1, aparts_same (E := E) (F := F) (ps := parts.toList) (by simpa [Op.operands] using h)]
  case makeFunc fn first captured =>
    have h1 : aevals E first.toList = aevals F first.toList := aevals_same fun x hx => h x (by simp [Op.operands]; exact .inl (by simpa using hx))
    have h2 : aevals E captured.toList = aevals F captured.toList := aevals_same fun x hx => h x (by simp [Op.operands]; exact .inr (by simpa using hx))
    simp only [aval1, h1, h2]
  case makeMap t r => cases r <;> simp only [aval1]
  case slice t x lo hi mx =>
    cases mx with
    | some m => simp only [aval1]
    | none =>
      have h1 := h x (by simp [Op.operands])
      have h2 : lo.map (aeval E) = lo.map (aeval F) := by
        cases lo with
        | none => rfl
        | some l => simp only [Option.map_some, h l (by simp [Op.operands])]
      have h3 : hi.map (aeval E) = hi.map (aeval F) := by
        cases hi with
        | none => rfl
        | some l => simp only [Option.map_some, h l (by simp [Op.operands])]
      simp only [aval1, h1, h2, h3]
  case call cl =>
    simp only [aval1]
    have ha : aevals E cl.args.toList = aevals F cl.args.toList := aevals_same fun x hx => h x (by simp [Op.operands, Call.operands]; exact .inr (by simpa using hx))
    cases hc : cl.callee with
    | value g => simp only [h g (by simp [Op.operands, Call.operands, hc]), ha]
    | builtin b => simp only [ha]
    | invoke r n => rfl
  all_goals simp only [aval1]
  all_goals simp only [Op.operands, List.mem_cons, List.not_mem_nil, or_false, forall_eq_or_imp, forall_eq] at h
  all_goals simp only [h]

/-- two lists of slots agree where the operation looks -/
structure Agree (ops : Array Oper) (o : Oper) (E F : AEnv) : Prop where
  look : ∀ t ∈ o.looksAt ops, alook E t = alook F t
  tgt : ∀ t ∈ o.looksAt ops, ∀ s off, alook E t = some (.place s off) → alook E s = alook F s
  new : ∀ d, o.dst = some d → noPlaceOf d E = true → noPlaceOf d F = true

theorem Agree.operand {ops : Array Oper} {o : Oper} (h : Agree ops o E F) {x : Operand} (hx : x ∈ o.op.operands.toList) : ∀ t, x = .tmp t → alook E t = alook F t := by
  intro t ht
  subst ht
  refine h.look t ?_
  unfold Oper.looksAt
  simp only [List.mem_append, List.mem_filterMap]
  exact .inl ⟨_, hx, rfl⟩

theorem Agree.box {ops : Array Oper} {o : Oper} (h : Agree ops o E F) {x : Operand} (hx : x ∈ o.op.operands.toList) {s off : Nat} (hp : aplace E x = some (s, off)) : abox E s = abox F s := by
  cases x with
  | tmp t =>
    have hm : t ∈ o.looksAt ops := by
      unfold Oper.looksAt
      simp only [List.mem_append, List.mem_filterMap]
      exact .inl ⟨_, hx, rfl⟩
    simp only [aplace] at hp
    split at hp
    · rename_i cs hc
      cases hp
      simp only [abox, h.look _ hm]
    · rename_i s' off' hc
      cases hp
      simp only [abox, h.tgt t hm _ _ hc]
    · cases hp
  | _ => simp [aplace] at hp

theorem aslot_same {ops : Array Oper} {o : Oper} (h : Agree ops o E F) : aslot c call E A o.op = aslot c call F A o.op := by
  have hv : ∀ x ∈ o.op.operands.toList, aeval E x = aeval F x := fun x hx => aeval_same (h.operand hx)
  have hp : ∀ x ∈ o.op.operands.toList, aplace E x = aplace F x := fun x hx => aplace_same (h.operand hx)
  have hb : ∀ x ∈ o.op.operands.toList, ∀ s off, aplace F x = some (s, off) → abox E s = abox F s := fun x hx s off he => h.box hx ((hp x hx).trans he)
  have hval := aval1_same (c := c) (call := call) (A := A) hv
  generalize o.op = op at *
  cases op
  case load t x =>
    have hx : x ∈ (Op.load t x).operands.toList := by simp [Op.operands]
    simp only [aslot, hp x hx, hv x hx]
    split
    · split
      · rename_i s off hs
        rw [hb x hx s off hs]
      · rfl
    · rfl
  case fieldAddr t x i =>
    have hx : x ∈ (Op.fieldAddr t x i).operands.toList := by simp [Op.operands]
    simp only [aslot, hp x hx, hv x hx]
  case indexAddr t x i =>
    have hx : x ∈ (Op.indexAddr t x i).operands.toList := by simp [Op.operands]
    have hi : i ∈ (Op.indexAddr t x i).operands.toList := by simp [Op.operands]
    simp only [aslot, hp x hx, hv x hx, hv i hi]
  all_goals
    simp only [aslot]
    rw [hval]

theorem aeff_same {ops : Array Oper} {o : Oper} (h : Agree ops o E F) {r} (he : aeff c call f o E A = some r) : aeff c call f o F A = some r := by
  have hv : ∀ x ∈ o.op.operands.toList, aeval E x = aeval F x := fun x hx => aeval_same (h.operand hx)
  have hp : ∀ x ∈ o.op.operands.toList, aplace E x = aplace F x := fun x hx => aplace_same (h.operand hx)
  have hb : ∀ x ∈ o.op.operands.toList, ∀ s off, aplace F x = some (s, off) → abox E s = abox F s := fun x hx s off he => h.box hx ((hp x hx).trans he)
  have hs := aslot_same (c := c) (call := call) (A := A) h
  have hn := h.new
  cases hop : o.op <;> rw [hop] at hv hp hb hs <;> simp only [aeff, hop] at he ⊢
  case alloc t =>
    split at he
    · rename_i z d hz hd
      try simp only [hz, hd]
      split at he
      · rename_i hc; simp only [hc, if_true]; exact he
      · rename_i hc
        simp only [hc, if_false]
        split at he
        · rename_i hnn
          rw [if_pos (hn d hd hnn)]
          exact he
        · cases he
    · cases he
  case box t x =>
    have hx : x ∈ (Op.box t x).operands.toList := by simp [Op.operands]
    rw [← hv x hx]
    split at he
    · rename_i z d hz hd
      try simp only [hz, hd]
      split at he
      · rename_i hc; simp only [hc, if_true]; exact he
      · rename_i hc
        simp only [hc, if_false]
        split at he
        · rename_i hnn
          rw [if_pos (hn d hd hnn)]
          exact he
        · cases he
    · cases he
  case store t x y =>
    have hx : x ∈ (Op.store t x y).operands.toList := by simp [Op.operands]
    have hy : y ∈ (Op.store t x y).operands.toList := by simp [Op.operands]
    rw [← hv y hy, ← hv x hx, ← hp x hx]
    rw [← he]
    split
    · rfl
    · congr 1
      funext v
      split
      · split
        · rename_i s off hs'
          rw [hb x hx s off (by rw [← hp x hx]; exact hs')]
        · rfl
      · rfl
  all_goals
    rw [← hs]
    exact he

theorem auses_same {ops : Array Oper} {o : Oper} (h : Agree ops o E F) : auses E f c o = auses F f c o := by
  have hv : ∀ x ∈ o.op.operands.toList, aeval E x = aeval F x := fun x hx => aeval_same (h.operand hx)
  have hp : ∀ x ∈ o.op.operands.toList, aplace E x = aplace F x := fun x hx => aplace_same (h.operand hx)
  unfold auses
  generalize o.op = op at *
  cases op <;> simp only []
  case load t x =>
    have hx : x ∈ (Op.load t x).operands.toList := by simp [Op.operands]
    rw [hp x hx, hv x hx]
  case store t x y =>
    have hx : x ∈ (Op.store t x y).operands.toList := by simp [Op.operands]
    rw [hp x hx, hv x hx]
  case indexAddr t x i =>
    have hx : x ∈ (Op.indexAddr t x i).operands.toList := by simp [Op.operands]
    rw [hv x hx]
  case buildSlice t n parts => rw [aparts_same (E := E) (F := F) (ps := parts.toList) (by simpa [Op.operands] using hv)]
  case call cl =>
    have ha : aevals E cl.args.toList = aevals F cl.args.toList := aevals_same fun x hx => hv x (by simp [Op.operands, Call.operands]; exact .inr (by simpa using hx))
    rw [ha]

theorem pstore_same {ops : Array Oper} {o : Oper} (h : Agree ops o E F) : pstore E o = pstore F o := by
  have hp : ∀ x ∈ o.op.operands.toList, aplace E x = aplace F x := fun x hx => aplace_same (h.operand hx)
  unfold pstore
  generalize o.op = op at *
  cases op <;> simp only []
  case store t x y =>
    have hx : x ∈ (Op.store t x y).operands.toList := by simp [Op.operands]
    rw [hp x hx]

theorem aguard_same {ops : Array Oper} {o : Oper} (h : Agree ops o E F) : aguard ops E o = aguard ops F o := by
  unfold aguard
  cases hg : o.guard with
  | none => rfl
  | some p =>
    obtain ⟨j, w⟩ := p
    simp only
    cases hd : (ops[j]?).bind (·.dst) with
    | none => rfl
    | some t =>
      have ht : t ∈ o.looksAt ops := by
        unfold Oper.looksAt
        simp only [hg, hd, List.mem_append]
        exact .inr (by simp)
      simp only [h.look t ht]

/-! the heap -/
/-- a part that the operation does not use is left alone; a part that it uses comes out the same -/
structure Fr (u : Bool × Bool) (H H' G G' : AHeap) : Prop where
  ob : u.1 = true → G'.objs = H'.objs
  ob' : u.1 = false → G'.objs = G.objs ∧ H'.objs = H.objs
  bf : u.2 = true → G'.bufs = H'.bufs
  bf' : u.2 = false → G'.bufs = G.bufs ∧ H'.bufs = H.bufs

theorem Fr.none (H G : AHeap) : Fr (false, false) H H G G := ⟨fun h => (by cases h), fun _ => ⟨rfl, rfl⟩, fun h => (by cases h), fun _ => ⟨rfl, rfl⟩⟩
theorem Fr.all (H H' : AHeap) : Fr (true, true) H H' H H' := ⟨fun _ => rfl, fun h => (by cases h), fun _ => rfl, fun h => (by cases h)⟩

/-- operations that use no heap -/
def Op.still : Op → Bool
  | .move _ | .assign _ | .pick _ _ _ | .build _ _ | .nilCheck _ | .binOp _ _ _ _ _ | .unOp _ _ _ | .convert _ _ _ | .makeFunc _ _ _ | .slice _ _ _ _ _ | .field _ _ _ | .index _ _ _ | .extract _ _ => true
  | _ => false

theorem aval1_still {op : Op} (hs : Op.still op = true) {x : AV} (h : aval1 c call E H op = some (x, H')) : H' = H ∧ aval1 c call E G op = some (x, G) := by
  cases op <;> simp only [Op.still] at hs <;> try (cases hs; done)
  case slice t y lo hi mx =>
    cases mx with
    | some m => simp only [aval1] at h; cases h
    | none =>
      simp only [aval1] at h ⊢
      split at h
      · split at h
        · cases h; rename_i hc; exact ⟨rfl, by simp [hc]⟩
        · cases h
      · split at h
        · cases h; rename_i hc; exact ⟨rfl, by simp [hc]⟩
        · cases h
      · split at h
        · cases h; rename_i hc; exact ⟨rfl, by simp [hc]⟩
        · cases h
      · cases h
  case index t y i =>
    simp only [aval1] at h ⊢
    split at h
    · split at h
      · rw [Option.map_eq_some_iff] at h
        obtain ⟨b, hb, h⟩ := h
        cases h
        rename_i hc
        exact ⟨rfl, by simp [hc, hb]⟩
      · cases h
    · split at h
      · split at h
        · rw [Option.map_eq_some_iff] at h
          obtain ⟨b, hb, h⟩ := h
          cases h
          rename_i hc
          exact ⟨rfl, by simp [hc, hb]⟩
        · cases h
      · cases h
    · cases h
  case nilCheck y =>
    simp only [aval1] at h ⊢
    split at h <;> cases h <;> exact ⟨rfl, rfl⟩
  case pick a b d =>
    simp only [aval1] at h ⊢
    split at h <;> cases h <;> exact ⟨rfl, rfl⟩
  case makeFunc fn a b =>
    simp only [aval1] at h ⊢
    split at h <;> cases h <;> exact ⟨rfl, rfl⟩
  all_goals
    simp only [aval1] at h ⊢
    first
      | (rw [Option.map_eq_some_iff] at h
         obtain ⟨b, hb, h⟩ := h
         cases h
         exact ⟨rfl, by rw [hb]; rfl⟩)
      | (simp only [Option.bind_eq_some_iff, Option.map_eq_some_iff] at h
         obtain ⟨a, ha, b, hb, h⟩ := h
         cases h
         exact ⟨rfl, by simp [ha, hb]⟩)
      | (split at h
         · rw [Option.map_eq_some_iff] at h
           obtain ⟨b, hb, h⟩ := h
           cases h
           exact ⟨rfl, by rw [hb]; rfl⟩
         · cases h)

theorem adat_bufs_frame {x : AV} {d : Dat} (hb : H.bufs = G.bufs) (h : adat H x = some (d, H')) : H'.objs = H.objs ∧ adat G x = some (d, { G with bufs := H'.bufs }) := by
  cases x <;> simp only [adat] at h ⊢ <;> try (cases h; done)
  case d y => cases h; exact ⟨rfl, by rw [hb]⟩
  case nilS => cases h; exact ⟨rfl, by rw [hb]⟩
  case full r => cases h; exact ⟨rfl, by rw [hb]⟩
  case own tok len =>
    rw [Option.map_eq_some_iff] at h
    obtain ⟨rows, hr, h⟩ := h
    cases h
    refine ⟨rfl, ?_⟩
    have : arows G (.own tok len) = some rows := by rw [← hr]; simp only [arows, hb]
    rw [this]
    simp [AHeap.freeze, hb]

theorem adats_bufs_frame : ∀ {xs : List AV} {ds : List Dat} {H H' G : AHeap}, H.bufs = G.bufs → adats H xs = some (ds, H') → H'.objs = H.objs ∧ adats G xs = some (ds, { G with bufs := H'.bufs })
  | [], ds, H, H', G, hb, h => by cases h; exact ⟨rfl, by simp [adats, hb]⟩
  | x :: xs, ds, H, H', G, hb, h => by
    simp only [adats, Option.bind_eq_some_iff, Option.map_eq_some_iff] at h ⊢
    obtain ⟨⟨d, H1⟩, h1, ⟨ds', H2⟩, h2, h3⟩ := h
    cases h3
    obtain ⟨o1, e1⟩ := adat_bufs_frame hb h1
    obtain ⟨o2, e2⟩ := adats_bufs_frame (H := H1) (G := { G with bufs := H1.bufs }) rfl h2
    exact ⟨o2.trans o1, _, e1, _, e2, rfl⟩

theorem adats_free : ∀ {xs : List AV} {ds : List Dat} {H H' G : AHeap}, xs.all AV.ownfree = true → adats H xs = some (ds, H') → H' = H ∧ adats G xs = some (ds, G)
  | [], ds, H, H', G, hx, h => by cases h; exact ⟨rfl, rfl⟩
  | x :: xs, ds, H, H', G, hx, h => by
    simp only [adats, Option.bind_eq_some_iff, Option.map_eq_some_iff] at h ⊢
    simp only [List.all_cons, Bool.and_eq_true] at hx
    obtain ⟨⟨d, H1⟩, h1, ⟨ds', H2⟩, h2, h3⟩ := h
    cases h3
    have k1 : H1 = H ∧ adat G x = some (d, G) := by
      cases x <;> simp only [adat] at h1 ⊢ <;> try (cases h1; done)
      case d y => cases h1; exact ⟨rfl, rfl⟩
      case nilS => cases h1; exact ⟨rfl, rfl⟩
      case full r => cases h1; exact ⟨rfl, rfl⟩
      case own tok len => simp [AV.ownfree] at hx
    obtain ⟨rfl, k1⟩ := k1
    obtain ⟨rfl, k2⟩ := adats_free (G := G) hx.2 h2
    exact ⟨rfl, _, k1, _, k2, rfl⟩

theorem vcell_ownfree {v : Value} {x : AV} (h : vcell v = some x) : x.ownfree = true := by
  unfold vcell at h
  split at h <;> cases h <;> rfl

theorem vcells_ownfree : ∀ {vs : List Value} {xs : List AV}, vcells vs = some xs → xs.all AV.ownfree = true
  | [], _, h => by cases h; rfl
  | v :: vs, xs, h => by
    simp only [vcells, Option.bind_eq_some_iff, Option.map_eq_some_iff] at h
    obtain ⟨x, hx, ys, hy, rfl⟩ := h
    simp [vcell_ownfree hx, vcells_ownfree hy]

theorem aval_ownfree {v : Value} {x : AV} (h : aval v = some x) : x.cells.all AV.ownfree = true := by
  unfold aval at h
  split at h
  · rw [Option.map_eq_some_iff] at h
    obtain ⟨xs, hx, rfl⟩ := h
    exact vcells_ownfree hx
  · split at h
    · cases h; rfl
    · cases h
  · split at h
    · cases h; rfl
    · cases h
  · have := vcell_ownfree h
    unfold vcell at h
    split at h <;> cases h <;> rfl

theorem zeroT_ownfree {P : Program} {t : TypeId} {z : AV} (h : zeroT P t = some z) : z.cells.all AV.ownfree = true := by
  simp only [zeroT, Option.bind_eq_some_iff] at h
  obtain ⟨v, _, hz⟩ := h
  exact aval_ownfree hz

theorem asplice_ownfree {cs new cs' : List AV} {off : Nat} (h : asplice cs off new = some cs') (h1 : cs.all AV.ownfree = true) (h2 : new.all AV.ownfree = true) : cs'.all AV.ownfree = true := by
  unfold asplice at h
  split at h
  · cases h
    simp only [List.all_append, Bool.and_eq_true, List.all_eq_true] at *
    exact ⟨⟨fun x hx => h1 x (List.mem_of_mem_take hx), h2⟩, fun x hx => h1 x (List.mem_of_mem_drop hx)⟩
  · cases h

theorem afill_ownfree {place : Nat → Option (Nat × Nat)} : ∀ {ps : List (Nat × AV)} {cs cs' : List AV}, afill place cs ps = some cs' → cs.all AV.ownfree = true → (ps.all fun p => p.2.cells.all AV.ownfree) = true → cs'.all AV.ownfree = true
  | [], cs, cs', h, h1, _ => by cases h; exact h1
  | (i, x) :: ps, cs, cs', h, h1, h2 => by
    simp only [afill, Option.bind_eq_some_iff] at h
    simp only [List.all_cons, Bool.and_eq_true] at h2
    obtain ⟨p, hp, h⟩ := h
    split at h
    · rw [Option.bind_eq_some_iff] at h
      obtain ⟨c1, e1, e2⟩ := h
      exact afill_ownfree e2 (asplice_ownfree e1 h1 h2.1) h2.2
    · cases h

theorem flatten_all {l : List AV} (n : Nat) (h : l.all AV.ownfree = true) : (List.replicate n l).flatten.all AV.ownfree = true := by
  rw [List.all_eq_true] at h ⊢
  intro x hx
  rw [List.mem_flatten] at hx
  obtain ⟨q, hq, hx⟩ := hx
  rw [List.mem_replicate] at hq
  rw [hq.2] at hx
  exact h x hx

end
end Go.Abs

namespace Go.Abs
section
variable {c : ACtx} {call : FuncId → AFun} {f : FuncId} {nt : Nat} {E F : AEnv} {A H G H' : AHeap}

theorem aload_frame {n : Nat} {agg : Bool} {p y : AV} (h : aload H n agg p = some y) : (∃ id off, p = .ptr id off ∧ (H.objs = G.objs → aload G n agg p = some y)) ∨ (∃ ds, p = .sptr ds ∧ aload G n agg p = some y) ∨ (∃ t l i o, p = .eptr t l i o ∧ (H.bufs = G.bufs → aload G n agg p = some y)) := by
  cases p <;> simp only [aload] at h <;> try (cases h; done)
  case ptr id off => exact .inl ⟨_, _, rfl, fun e => by simp only [aload, ← e]; exact h⟩
  case sptr ds => exact .inr (.inl ⟨_, rfl, by simp only [aload]; exact h⟩)
  case eptr t l i o => exact .inr (.inr ⟨_, _, _, _, rfl, fun e => by simp only [aload, ← e]; exact h⟩)

theorem arows_frame {x : AV} (hb : H.bufs = G.bufs) : arows H x = arows G x := by
  cases x <;> simp only [arows, hb]

theorem arows_notown {x : AV} (hx : ∀ t l, x ≠ .own t l) : arows H x = arows G x := by
  cases x with
  | own t l => exact absurd rfl (hx t l)
  | d y => cases y <;> rfl
  | _ => rfl

theorem aappend_frame {P : Program} {e : TypeId} {sz : Nat} {x z : AV} {src : List (List Dat)} (hb : H.bufs = G.bufs) (h : aappend P e sz H x src = some (z, H')) : H'.objs = H.objs ∧ aappend P e sz G x src = some (z, { G with bufs := H'.bufs }) := by
  unfold aappend at h ⊢
  split at h
  case isFalse => cases h
  rename_i hc
  rw [if_pos hc]
  cases x <;> simp only at h ⊢ <;> try (cases h; done)
  case nilS =>
    split at h
    · cases h; rename_i hs; exact ⟨rfl, by simp [hs, hb]⟩
    · rename_i hs
      split at h
      · cases h; rename_i hl; exact ⟨rfl, by simp [hs, hl, hb]⟩
      · cases h
  case full rows =>
    split at h
    · cases h; rename_i hs; exact ⟨rfl, by simp [hs, hb]⟩
    · rename_i hs
      split at h
      · cases h; rename_i hl; exact ⟨rfl, by rw [if_neg hs, if_pos hl, hb]⟩
      · cases h
  case own tok len =>
    rw [← hb]
    split at h
    · rename_i b hbt
      split at h
      · cases h; rename_i hl; exact ⟨rfl, by simp [hbt, hl]⟩
      · cases h
    · cases h

set_option maxHeartbeats 1000000 in
theorem aeff_frame {o : Oper} {w : Option (Nat × Slot)} (h1 : (auses E f c o).1 = true → H.objs = G.objs) (h2 : (auses E f c o).2 = true → H.bufs = G.bufs) (h : aeff c call f o E H = some (w, H')) :
    ∃ G', aeff c call f o E G = some (w, G') ∧ Fr (auses E f c o) H H' G G' := by
  -- both parts used: the heaps are one
  have both : auses E f c o = (true, true) → ∃ G', aeff c call f o E G = some (w, G') ∧ Fr (auses E f c o) H H' G G' := by
    intro hu
    rw [hu] at h1 h2 ⊢
    have : H = G := by
      obtain ⟨ho, hb⟩ := H
      obtain ⟨go, gb⟩ := G
      have e1 := h1 rfl
      have e2 := h2 rfl
      simp only at e1 e2
      rw [e1, e2]
    subst this
    exact ⟨H', h, .all _ _⟩
  -- operations that use nothing
  have still : Op.still o.op = true → ∃ G', aeff c call f o E G = some (w, G') ∧ Fr (auses E f c o) H H' G G' := by
    intro hs
    have hu : auses E f c o = (false, false) := by
      unfold auses
      cases hop : o.op <;> rw [hop] at hs <;> simp only [Op.still] at hs <;> first | rfl | cases hs
    have hae : ∀ A, aeff c call f o E A = (aval1 c call E A o.op).map fun r => (o.dst.map (·, Slot.v r.1), r.2) := by
      intro A
      cases hop : o.op <;> rw [hop] at hs <;> simp only [Op.still] at hs <;> first
        | (cases hs; done)
        | (simp only [aeff, hop, aslot, Option.map_map]; rfl)
    rw [hae, Option.map_eq_some_iff] at h
    obtain ⟨⟨x, H1⟩, hx, h⟩ := h
    cases h
    obtain ⟨rfl, hg⟩ := aval1_still (G := G) hs hx
    refine ⟨G, by rw [hae, hg]; rfl, ?_⟩
    rw [hu]
    exact .none _ _
  by_cases hst : Op.still o.op = true
  · exact still hst
  cases hop : o.op <;> rw [hop] at hst <;> simp only [Op.still, not_true_eq_false] at hst <;> try (refine both ?_; unfold auses; rw [hop]; done)
  case alloc t =>
    cases hd : o.dst with
    | none =>
      simp only [aeff, hop, hd] at h
      cases hz : zeroT c.P t <;> simp [hz] at h
    | some d =>
      by_cases hc : (c.esc f).contains d = true
      · have hu : auses E f c o = (true, false) := by unfold auses; rw [hop]; simp only [hd, hc]
        rw [hu] at h1 ⊢
        have e1 := h1 rfl
        simp only [aeff, hop, hd] at h ⊢
        cases hz : zeroT c.P t with
        | none => simp [hz] at h
        | some z =>
          simp only [hz, hc, if_true, Option.some.injEq, Prod.mk.injEq] at h ⊢
          obtain ⟨rfl, rfl⟩ := h
          exact ⟨{ G with objs := G.objs ++ [.cells z.cells] }, ⟨by rw [e1], rfl⟩, fun _ => by simp [e1], fun h => (by cases h), fun h => (by cases h), fun _ => ⟨rfl, rfl⟩⟩
      · have hc' : (c.esc f).contains d = false := by simpa using hc
        have hu : auses E f c o = (false, false) := by unfold auses; rw [hop]; simp only [hd, hc']
        rw [hu]
        simp only [aeff, hop, hd] at h ⊢
        cases hz : zeroT c.P t with
        | none => simp [hz] at h
        | some z =>
          simp only [hz, hc', Bool.false_eq_true, if_false] at h ⊢
          split at h
          · rename_i hn
            cases h
            exact ⟨G, by rw [if_pos hn], .none _ _⟩
          · cases h
  case box t x =>
    cases hd : o.dst with
    | none =>
      simp only [aeff, hop, hd] at h
      cases hz : aeval E x <;> simp [hz] at h
    | some d =>
      by_cases hc : (c.esc f).contains d = true
      · have hu : auses E f c o = (true, false) := by unfold auses; rw [hop]; simp only [hd, hc]
        rw [hu] at h1 ⊢
        have e1 := h1 rfl
        simp only [aeff, hop, hd] at h ⊢
        cases hz : aeval E x with
        | none => simp [hz] at h
        | some z =>
          simp only [hz, hc, if_true, Option.some.injEq, Prod.mk.injEq] at h ⊢
          obtain ⟨rfl, rfl⟩ := h
          exact ⟨{ G with objs := G.objs ++ [.cells z.cells] }, ⟨by rw [e1], rfl⟩, fun _ => by simp [e1], fun h => (by cases h), fun h => (by cases h), fun _ => ⟨rfl, rfl⟩⟩
      · have hc' : (c.esc f).contains d = false := by simpa using hc
        have hu : auses E f c o = (false, false) := by unfold auses; rw [hop]; simp only [hd, hc']
        rw [hu]
        simp only [aeff, hop, hd] at h ⊢
        cases hz : aeval E x with
        | none => simp [hz] at h
        | some z =>
          simp only [hz, hc', Bool.false_eq_true, if_false] at h ⊢
          split at h
          · rename_i hn
            cases h
            exact ⟨G, by rw [if_pos hn], .none _ _⟩
          · cases h
  case load t x =>
    simp only [auses, hop] at h1 h2 both ⊢
    simp only [aeff, hop, aslot] at h ⊢
    cases hk : kindT c.P t with
    | none => simp [hk] at h
    | some k =>
      obtain ⟨n, agg⟩ := k
      simp only [hk] at h ⊢
      cases hp : aplace E x with
      | some q =>
        obtain ⟨s, off⟩ := q
        simp only [hp] at h ⊢
        rw [Option.map_eq_some_iff] at h
        obtain ⟨r, hr, h⟩ := h
        rw [Option.bind_eq_some_iff] at hr
        obtain ⟨cs, hcs, hr⟩ := hr
        rw [Option.map_eq_some_iff] at hr
        obtain ⟨v, hv, hr⟩ := hr
        subst hr
        cases h
        exact ⟨G, by simp [hcs, hv], .none _ _⟩
      | none =>
        simp only [hp] at h h1 h2 both ⊢
        rw [Option.map_eq_some_iff] at h
        obtain ⟨r, hr, h⟩ := h
        rw [Option.bind_eq_some_iff] at hr
        obtain ⟨p, hpp, hr⟩ := hr
        rw [Option.map_eq_some_iff] at hr
        obtain ⟨v, hv, hr⟩ := hr
        subst hr
        cases h
        simp only [hpp] at h1 h2 ⊢
        rcases aload_frame (G := G) hv with ⟨id, off, rfl, hl⟩ | ⟨ds, rfl, hl⟩ | ⟨t', l, i, o', rfl, hl⟩
        · simp only at h1 h2 ⊢
          have e := h1 (by simp)
          exact ⟨G, by simp [hl e], fun _ => e.symm, fun h => (by cases h), fun h => (by cases h), fun _ => ⟨rfl, rfl⟩⟩
        · exact ⟨G, by simp [hl], .none _ _⟩
        · simp only at h1 h2 ⊢
          have e := h2 (by simp)
          exact ⟨G, by simp [hl e], fun h => (by cases h), fun _ => ⟨rfl, rfl⟩, fun _ => e.symm, fun h => (by cases h)⟩
  case store t x y =>
    cases hp : aplace E x with
    | none =>
      simp only [auses, hop, hp] at h1 h2 both ⊢
      simp only [aeff, hop, hp] at h both ⊢
      split at h
      · cases h
      rename_i hd
      rw [Option.bind_eq_some_iff] at h
      obtain ⟨v, hv, h⟩ := h
      split at h
      case isFalse => cases h
      rename_i hc
      rw [Option.bind_eq_some_iff] at h
      obtain ⟨p, hpp, h⟩ := h
      rw [Option.map_eq_some_iff] at h
      obtain ⟨H1, hst, h⟩ := h
      cases h
      cases p with
      | ptr id off =>
        simp only [hpp] at h1 h2 ⊢
        have e1 := h1 (by simp)
        simp only [astore] at hst
        split at hst
        case h_2 => cases hst
        rename_i cs hcs
        rw [Option.map_eq_some_iff] at hst
        obtain ⟨cs', hsp, hst⟩ := hst
        cases hst
        have hkey : astore G v.cells (.ptr id off) = some { G with objs := G.objs.set id (.cells cs') } := by simp only [astore, ← e1, hcs, hsp, Option.map_some]
        refine ⟨{ G with objs := G.objs.set id (.cells cs') }, ?_, fun _ => by simp [e1], fun h => (by cases h), fun h => (by cases h), fun _ => ⟨rfl, rfl⟩⟩
        simp only [hv, Option.bind_some]
        rw [if_pos hc]
        simp [hkey]
      | eptr tok len i o' =>
        simp only [hpp] at h1 h2 ⊢
        have e2 := h2 (by simp)
        simp only [astore] at hst
        split at hst
        case h_2 => cases hst
        rename_i b hb
        split at hst
        case isFalse => cases hst
        rename_i hcnd
        split at hst
        case h_2 => cases hst
        rename_i row hrow
        rw [Option.bind_eq_some_iff] at hst
        obtain ⟨⟨ds, H2⟩, had, hst⟩ := hst
        simp only at hst
        split at hst
        case isFalse => cases hst
        rename_i hfit
        split at hst
        case h_2 => cases hst
        rename_i b' hb'
        split at hst
        case isFalse => cases hst
        rename_i hfz
        cases hst
        obtain ⟨k1, k2⟩ := adats_bufs_frame (G := G) e2 had
        have hkey : astore G v.cells (.eptr tok len i o') = some { G with bufs := H2.bufs.set tok { b' with rows := b'.rows.set i (row.take o' ++ ds ++ row.drop (o' + ds.length)) } } := by
          simp only [astore, ← e2, hb]
          rw [if_pos hcnd]
          simp only [hrow, k2, Option.bind_some]
          rw [if_pos hfit]
          simp only [hb']
          rw [if_pos hfz]
        refine ⟨{ G with bufs := H2.bufs.set tok { b' with rows := b'.rows.set i (row.take o' ++ ds ++ row.drop (o' + ds.length)) } }, ?_, fun h => (by cases h), fun _ => ⟨rfl, k1⟩, fun _ => rfl, fun h => (by cases h)⟩
        simp only [hv, Option.bind_some]
        rw [if_pos hc]
        simp [hkey]
      | _ => simp [astore] at hst
    | some q =>
      obtain ⟨s, off⟩ := q
      simp only [auses, hop, hp] at h1 h2 both ⊢
      simp only [aeff, hop, hp] at h ⊢
      split at h
      · cases h
      rename_i hd
      rw [Option.bind_eq_some_iff] at h
      obtain ⟨v, hv, h⟩ := h
      split at h
      case isFalse => cases h
      rename_i hc
      rw [Option.bind_eq_some_iff] at h
      obtain ⟨cs, hcs, h⟩ := h
      rw [Option.map_eq_some_iff] at h
      obtain ⟨cs', hsp, h⟩ := h
      cases h
      refine ⟨G, ?_, .none _ _⟩
      simp only [hd, hv, Option.bind_some]
      rw [if_pos hc]
      simp [hcs, hsp]
  case fieldAddr t x i =>
    simp only [auses, hop] at h1 h2 both ⊢
    simp only [aeff, hop, aslot] at h ⊢
    refine ⟨G, ?_, ?_⟩
    all_goals
      rw [Option.map_eq_some_iff] at h
      obtain ⟨r, hr, h⟩ := h
      split at hr
      case h_2 => cases hr
      rename_i off n agg hf
      split at hr
      · cases hr
      rename_i hn
      split at hr
      · rename_i s o' hp
        cases hr; cases h
        first
          | exact .none _ _
          | simp [hn, hp]
      · rename_i hp
        split at hr
        · rename_i hv; cases hr; cases h; first | exact .none _ _ | simp [hn, hp, hv]
        · rename_i hv; cases hr; cases h; first | exact .none _ _ | simp [hn, hp, hv]
        · rename_i hv; cases hr; cases h; first | exact .none _ _ | simp [hn, hp, hv]
        · cases hr
  case indexAddr t x i =>
    simp only [aeff, hop, aslot] at h ⊢
    rw [Option.map_eq_some_iff] at h
    obtain ⟨r, hr, h⟩ := h
    split at hr
    case h_2 => cases hr
    rename_i k n hi
    split at hr
    · rename_i len sz agg ha
      split at hr
      case h_2 => cases hr
      rename_i s o' hp
      split at hr
      case isFalse => cases hr
      rename_i hc
      cases hr; cases h
      have hne : ∀ t' l, aeval E x ≠ some (.own t' l) := by
        intro t' l hv
        cases x with
        | tmp q =>
          simp only [aplace] at hp
          simp only [aeval] at hv
          split at hp <;> simp_all
        | _ => simp [aplace] at hp
      have hu : auses E f c o = (false, false) := by
        unfold auses
        rw [hop]
        show (match aeval E x with | some (.own _ _) => (false, true) | _ => (false, false)) = (false, false)
        cases hv : aeval E x with
        | none => rfl
        | some v => cases v with
          | own t' l => exact absurd hv (hne _ _)
          | _ => rfl
      rw [hu]
      exact ⟨G, by simp [hi, hp, hc], .none _ _⟩
    · split at hr
      case h_2 => cases hr
      rename_i ha _ _ e v hel hv
      rw [Option.map_eq_some_iff] at hr
      obtain ⟨p, hpp, hr⟩ := hr
      cases hr; cases h
      by_cases hown : ∃ t' l, v = .own t' l
      · obtain ⟨t', l, rfl⟩ := hown
        have hu : auses E f c o = (false, true) := by
          unfold auses
          rw [hop]
          simp only [hv]
        rw [hu] at h1 h2 ⊢
        have e2 := h2 rfl
        refine ⟨G, ?_, fun h => (by cases h), fun _ => ⟨rfl, rfl⟩, fun _ => e2.symm, fun h => (by cases h)⟩
        have : aindex e.2 G n (.own t' l) = some p := by rw [← hpp]; simp only [aindex, e2]
        simp [hi, hel, hv, this]
      · have hne : ∀ t' l, v ≠ .own t' l := fun t' l hh => hown ⟨t', l, hh⟩
        have hu : auses E f c o = (false, false) := by
          unfold auses
          rw [hop]
          simp only [hv]
          split
          · rename_i hvv; cases hvv; exact absurd rfl (hne _ _)
          · rfl
        rw [hu]
        refine ⟨G, ?_, .none _ _⟩
        have : aindex e.2 G n v = some p := by
          rw [← hpp]
          unfold aindex
          split
          · exact absurd rfl (hne _ _)
          · rw [arows_notown (H := G) hne]
        simp [hi, hel, hv, this]
  case buildSlice t n parts =>
    simp only [aeff, hop, aslot, aval1] at h ⊢
    rw [Option.map_eq_some_iff] at h
    obtain ⟨r, hr, h⟩ := h
    rw [Option.map_eq_some_iff] at hr
    obtain ⟨r', hr', hrr⟩ := hr
    subst hrr
    split at hr'
    case h_2 => cases hr'
    rename_i e ps hel hps
    split at hr'
    case h_2 => cases hr'
    rename_i z hz
    split at hr'
    case isFalse => cases hr'
    rename_i hc
    rw [Option.bind_eq_some_iff] at hr'
    obtain ⟨cs, hcs, hr'⟩ := hr'
    rw [Option.map_eq_some_iff] at hr'
    obtain ⟨⟨ds, H1⟩, hds, hr'⟩ := hr'
    subst hr'
    cases h
    by_cases hfree : (ps.all fun p => p.2.cells.all AV.ownfree) = true
    · have hu : auses E f c o = (false, false) := by
        unfold auses
        rw [hop]
        simp only [hps, hfree, Bool.not_true]
      rw [hu]
      have hcf := afill_ownfree hcs (flatten_all n (zeroT_ownfree hz)) hfree
      obtain ⟨e1, e2⟩ := adats_free (G := G) hcf hds
      subst e1
      exact ⟨G, by simp [hel, hps, hz, hc, hcs, e2], .none _ _⟩
    · have hu : auses E f c o = (false, true) := by
        unfold auses
        rw [hop]
        have : (ps.all fun p => p.2.cells.all AV.ownfree) = false := by simpa using hfree
        simp only [hps, this, Bool.not_false]
      rw [hu] at h1 h2 ⊢
      obtain ⟨e1, e2⟩ := adats_bufs_frame (G := G) (h2 rfl) hds
      exact ⟨{ G with bufs := H1.bufs }, by simp [hel, hps, hz, hc, hcs, e2], fun h => (by cases h), fun _ => ⟨rfl, e1⟩, fun _ => rfl, fun h => (by cases h)⟩
  case makeMap t r =>
    have hu : auses E f c o = (true, false) := by unfold auses; rw [hop]
    rw [hu] at h1 h2 ⊢
    have e1 := h1 rfl
    cases r with
    | some r => simp [aeff, hop, aslot, aval1] at h
    | none =>
      simp only [aeff, hop, aslot, aval1] at h ⊢
      split at h
      · rename_i hm
        simp only [Option.map_some, Option.some.injEq, Prod.mk.injEq] at h
        obtain ⟨rfl, rfl⟩ := h
        exact ⟨{ G with objs := G.objs ++ [.map []] }, by simp [e1], fun _ => by simp [e1], fun h => (by cases h), fun h => (by cases h), fun _ => ⟨rfl, rfl⟩⟩
      · simp at h
  case range t x =>
    have hu : auses E f c o = (true, false) := by unfold auses; rw [hop]
    rw [hu] at h1 h2 ⊢
    have e1 := h1 rfl
    simp only [aeff, hop, aslot, aval1] at h ⊢
    split at h
    · split at h
      · rename_i hst
        simp only [Option.map_some, Option.some.injEq, Prod.mk.injEq] at h
        obtain ⟨rfl, rfl⟩ := h
        rename_i s hs
        exact ⟨{ G with objs := G.objs ++ [.iter s 0] }, by simp [hst, e1], fun _ => by simp [e1], fun h => (by cases h), fun h => (by cases h), fun _ => ⟨rfl, rfl⟩⟩
      · simp at h
    · simp at h
  case next x s =>
    have hu : auses E f c o = (true, false) := by unfold auses; rw [hop]
    rw [hu] at h1 h2 ⊢
    have e1 := h1 rfl
    simp only [aeff, hop, aslot, aval1] at h ⊢
    cases s with
    | false => simp at h
    | true =>
      simp only [if_true, Option.map_map, Option.map_eq_some_iff] at h
      obtain ⟨⟨y, H1⟩, hx, h⟩ := h
      simp only [Function.comp, Prod.mk.injEq] at h
      obtain ⟨rfl, rfl⟩ := h
      rw [Option.bind_eq_some_iff] at hx
      obtain ⟨p, hp, hx⟩ := hx
      have key : anext G p = some (y, { G with objs := H1.objs }) ∧ H1.bufs = H.bufs := by
        unfold anext at hx ⊢
        rw [← e1]
        split at hx
        · split at hx
          · rename_i hq
            split at hx
            · rename_i hps; cases hx; exact ⟨by simp [hq, hps], rfl⟩
            · rename_i hps; cases hx; exact ⟨by simp [hq, hps, e1], rfl⟩
          · cases hx
        · cases hx
      exact ⟨{ G with objs := H1.objs }, by simp [hp, key.1], fun _ => rfl, fun h => (by cases h), fun h => (by cases h), fun _ => ⟨rfl, key.2⟩⟩
  case lookup t m k ok =>
    have hu : auses E f c o = (true, false) := by unfold auses; rw [hop]
    rw [hu] at h1 h2 ⊢
    have e1 := h1 rfl
    have e3 : ∀ a b, alookup c.P t H a b ok = alookup c.P t G a b ok := fun a b => by unfold alookup; rw [e1]
    simp only [aeff, hop, aslot, aval1] at h ⊢
    split at h
    · rename_i a b ha hb
      simp only [Option.map_map, Option.map_eq_some_iff] at h
      obtain ⟨x, hx, h⟩ := h
      simp only [Function.comp, Prod.mk.injEq] at h
      obtain ⟨rfl, rfl⟩ := h
      rw [e3] at hx
      exact ⟨G, by simp [hx], fun _ => e1.symm, fun h => (by cases h), fun h => (by cases h), fun _ => ⟨rfl, rfl⟩⟩
    · simp at h
  case mapUpdate t m k x =>
    have hu : auses E f c o = (true, false) := by unfold auses; rw [hop]
    rw [hu] at h1 h2 ⊢
    have e1 := h1 rfl
    simp only [aeff, hop, aslot, aval1] at h ⊢
    split at h
    case h_2 => simp at h
    rename_i a b v ha hb hv
    simp only [Option.map_map, Option.map_eq_some_iff] at h
    obtain ⟨H1, hx, h⟩ := h
    simp only [Function.comp, Prod.mk.injEq] at h
    obtain ⟨rfl, rfl⟩ := h
    have key : amapUpdate c.P t G a b v = some { G with objs := H1.objs } ∧ H1.bufs = H.bufs := by
      unfold amapUpdate at hx ⊢
      rw [← e1]
      split at hx
      · split at hx
        · split at hx
          · rw [Option.map_eq_some_iff] at hx
            obtain ⟨es, he, hx⟩ := hx
            cases hx
            rename_i hq hpl
            exact ⟨by simp [hq, hpl, he], rfl⟩
          · cases hx
        · cases hx
      · cases hx
    exact ⟨{ G with objs := H1.objs }, by simp [key.1], fun _ => rfl, fun h => (by cases h), fun h => (by cases h), fun _ => ⟨rfl, key.2⟩⟩
  case call cl =>
    cases hcal : cl.callee with
    | value g => exact both (by unfold auses; rw [hop]; simp only [hcal])
    | invoke r nm => exact both (by unfold auses; rw [hop]; simp only [hcal])
    | builtin b =>
      simp only [aeff, hop, aslot, aval1, hcal] at h ⊢
      simp only [Option.map_map, Option.map_eq_some_iff] at h
      obtain ⟨⟨x, H1⟩, hx, h⟩ := h
      simp only [Function.comp, Prod.mk.injEq] at h
      obtain ⟨rfl, rfl⟩ := h
      rw [Option.bind_eq_some_iff] at hx
      obtain ⟨xs, hxs, hx⟩ := hx
      have wrap : ∀ {G'}, abuiltin c.P b cl.argTypes xs G = some (x, G') → Option.map (fun r => (Option.map (fun x => (x, r.1)) o.dst, r.2)) (Option.map (fun r => (Slot.v r.1, r.2)) ((aevals E cl.args.toList).bind fun args => abuiltin c.P b cl.argTypes args G)) = some (Option.map (fun x_1 => (x_1, Slot.v x)) o.dst, G') := by
        intro G' hg
        rw [hxs]
        simp [hg]
      unfold abuiltin at hx
      split at hx
      · rename_i y
        split at hx
        case h_2 => cases hx
        rename_i t ht
        rw [Option.map_eq_some_iff] at hx
        obtain ⟨n, hn, hx⟩ := hx
        cases hx
        by_cases hm : ∃ id, y = .mapr id
        · obtain ⟨id, rfl⟩ := hm
          have hu : auses E f c o = (true, false) := by unfold auses; rw [hop]; simp only [hcal, hxs]
          rw [hu] at h1 h2 ⊢
          have e1 := h1 rfl
          refine ⟨G, wrap ?_, fun _ => e1.symm, fun h => (by cases h), fun h => (by cases h), fun _ => ⟨rfl, rfl⟩⟩
          have : alen G (lenT c.P t) (.mapr id) = some n := by rw [← hn]; simp only [alen, e1]
          simp [abuiltin, ht, this]
        · have hu : auses E f c o = (false, false) := by
            unfold auses; rw [hop]; simp only [hcal, hxs]
            split
            · rename_i hh; cases hh; exact absurd ⟨_, rfl⟩ hm
            · rfl
            · rename_i hh; cases hh
          rw [hu]
          refine ⟨G, wrap ?_, .none _ _⟩
          have : alen G (lenT c.P t) y = some n := by
            rw [← hn]
            cases y with
            | mapr id => exact absurd ⟨_, rfl⟩ hm
            | d q => cases q <;> rfl
            | _ => rfl
          simp [abuiltin, ht, this]
      · rename_i y z
        have hu : auses E f c o = (false, true) := by unfold auses; rw [hop]; simp only [hcal]
        rw [hu] at h1 h2 ⊢
        have e2 := h2 rfl
        split at hx
        case h_2 => cases hx
        rename_i t u ht
        split at hx
        case isFalse => cases hx
        rename_i htu
        split at hx
        case h_2 => cases hx
        rename_i e he
        rw [Option.bind_eq_some_iff] at hx
        obtain ⟨src, hs, hx⟩ := hx
        obtain ⟨k1, k2⟩ := aappend_frame (G := G) e2 hx
        refine ⟨{ G with bufs := H1.bufs }, wrap ?_, fun h => (by cases h), fun _ => ⟨rfl, k1⟩, fun _ => rfl, fun h => (by cases h)⟩
        rw [arows_frame e2] at hs
        simp [abuiltin, ht, htu, htu ▸ he, hs, k2]
      · rename_i m k
        have hu : auses E f c o = (true, false) := by unfold auses; rw [hop]; simp only [hcal]
        rw [hu] at h1 h2 ⊢
        have e1 := h1 rfl
        split at hx
        case h_2 => cases hx
        rename_i t ht
        rw [Option.map_eq_some_iff] at hx
        obtain ⟨H2, hd, hx⟩ := hx
        cases hx
        have key : adelete c.P t G m k = some { G with objs := H1.objs } ∧ H1.bufs = H.bufs := by
          unfold adelete at hd ⊢
          rw [← e1]
          split at hd
          · split at hd
            · rw [Option.map_eq_some_iff] at hd
              obtain ⟨es, he, hd⟩ := hd
              cases hd
              rename_i hq
              exact ⟨by simp [hq, he], rfl⟩
            · cases hd
          · cases hd
        exact ⟨{ G with objs := H1.objs }, wrap (by simp [abuiltin, ht, key.1]), fun _ => rfl, fun h => (by cases h), fun h => (by cases h), fun _ => ⟨rfl, key.2⟩⟩
      · have hu : auses E f c o = (false, false) := by unfold auses; rw [hop]; simp only [hcal]
        rw [hu]
        rw [Option.map_eq_some_iff] at hx
        obtain ⟨y, hy, hx⟩ := hx
        cases hx
        exact ⟨G, wrap (by simp [abuiltin, hy]), .none _ _⟩
      · have hu : auses E f c o = (false, false) := by unfold auses; rw [hop]; simp only [hcal]
        rw [hu]
        rw [Option.map_eq_some_iff] at hx
        obtain ⟨y, hy, hx⟩ := hx
        cases hx
        exact ⟨G, wrap (by simp [abuiltin, hy]), .none _ _⟩
      · cases hx

end
end Go.Abs
