/- One operation: places, effects, calls. -/
import Derived.Test.YtfoibmfocmjmdaaAbsOp
set_option linter.unusedVariables false
set_option linter.unusedSimpArgs false
set_option linter.all false
set_option linter.deprecated false
namespace Go.Abs

section
variable {P : Program} {W W' W0 : World} {g g' g0 : Gh} {A A' A0 : AHeap} {N nt : Nat} {β : Nat → Nat} {env env' : AEnv} {a : Act}

/-! addresses -/
theorem run_fieldAt {t : TypeId} {i off n : Nat} {agg : Bool} (hf : fieldT P t i = some (off, n, agg)) (hn : n ≠ 0) (ad : Addr) : (Instr.fieldAt t (.pointer (some ad)) i).run P W = .ok (.pointer (some (ad.add off))) W := by
  obtain ⟨fs, f, hu, hfi, ho, hk⟩ := fieldT_some hf
  subst ho
  simp [Instr.fieldAt, run_underlying hu, hfi, Instr.sureAddr, fieldPlace, run_sizeOf hk, hn]

theorem run_indexAt_arr {t : TypeId} {len sz : Nat} {agg : Bool} (ha : arrT P t = some (len, sz, agg)) (ad : Addr) (k : IntKind) {n : Int} (h0 : 0 ≤ n) (h1 : n < len) :
    (Instr.indexAt t (.pointer (some ad)) (.int k n)).run P W = .ok (.pointer (some (ad.add (n.toNat * sz)))) W := by
  obtain ⟨e, hu, hk⟩ := arrT_some ha
  simp [Instr.indexAt, asIntOf, run_underlying hu, Instr.sureAddr, h0, h1, run_sizeOf hk]

theorem run_indexAt_sl {t e : TypeId} {sz : Nat} (he : elemT P t = some (e, sz)) (ad : Addr) (len cap : Nat) (k : IntKind) {n : Int} (h0 : 0 ≤ n) (h1 : n < len) :
    (Instr.indexAt t (.slice (some ad) len cap) (.int k n)).run P W = .ok (.pointer (some (ad.add (n.toNat * sz)))) W := by
  obtain ⟨hu, agg, hk⟩ := elemT_some he
  simp [Instr.indexAt, asIntOf, run_underlying hu, h0, h1, run_sizeOf hk]

theorem field_rel {t : TypeId} {i off n : Nat} {agg : Bool} (hf : fieldT P t i = some (off, n, agg)) (hn : n ≠ 0) {x : AV} {u : Value} (hx : RelV W g A x u) {y : AV}
    (h : (match some x with
        | some (.ptr id o') => some (AV.ptr id (o' + off))
        | some (.sptr ds) => some (.sptr (ds.drop off))
        | some (.eptr tok len j o') => some (.eptr tok len j (o' + off))
        | _ => none) = some y) : ∃ v, (Instr.fieldAt t u i).run P W = .ok v W ∧ RelV W g A y v := by
  cases hx <;> simp only at h <;> try (cases h; done)
  case ptr id o' hid =>
    cases h
    refine ⟨_, run_fieldAt hf hn _, ?_⟩
    rw [addr_add]
    exact .ptr id (o' + off) hid
  case sptr ds b o val hcell hval =>
    cases h
    refine ⟨_, run_fieldAt hf hn _, ?_⟩
    rw [addr_add]
    refine .sptr (ds.drop off) b (o + off) (fun j => val (off + j)) (fun j c hj => ?_) (fun j c hj => ?_)
    · rw [List.getElem?_drop] at hj
      have := hcell (off + j) c hj
      rw [Nat.add_assoc]
      exact this
    · rw [List.getElem?_drop] at hj
      exact hval (off + j) c hj
  case eptr tok len j o' p ht hp =>
    cases h
    refine ⟨_, run_fieldAt hf hn _, ?_⟩
    refine .eptr tok len j (o' + off) _ ht fun b hb => ?_
    obtain ⟨h1, h2⟩ := hp b hb
    refine ⟨h1, fun h3 => ?_⟩
    obtain ⟨blk, cap, e1, e2⟩ := h2 h3
    refine ⟨blk, cap, e1, ?_⟩
    rw [e2, addr_add, Nat.add_assoc]

theorem index_rel (hw : WRel W g A) {t e : TypeId} {sz : Nat} (he : elemT P t = some (e, sz)) {x : AV} {u : Value} (hx : RelV W g A x u) (k : IntKind) {n : Int} {y : AV} (h : aindex sz A n x = some y) :
    ∃ v, (Instr.indexAt t u (.int k n)).run P W = .ok v W ∧ RelV W g A y v := by
  have data : ∀ {rows : List (List Dat)} {v : Value}, RelD W g.S (.slice rows) v → (if 0 ≤ n then (match rows[n.toNat]? with
      | some row => if row.length = sz then some (AV.sptr row) else none
      | none => none) else none) = some y → ∃ r, (Instr.indexAt t v (.int k n)).run P W = .ok r W ∧ RelV W g A y r := by
    intro rows v hd h
    split at h
    case isFalse => cases h
    rename_i h0
    split at h
    case h_2 => cases h
    rename_i row hrow
    split at h
    case isFalse => cases h
    rename_i hl
    cases h
    generalize hdd : Dat.slice rows = dd at hd
    cases hd with
    | bool => cases hdd
    | int => cases hdd
    | str => cases hdd
    | empty => cases hdd; simp at hrow
    | slice rows' b o cap sz' val hcap hlen hcell hval =>
      cases hdd
      have hlt := lt_of_get hrow
      have hs : sz' = sz := by rw [← hlen _ row hrow, hl]
      subst hs
      refine ⟨_, run_indexAt_sl he _ _ _ k h0 (by omega), ?_⟩
      rw [addr_add]
      refine .sptr row b _ (fun j => val n.toNat j) (fun j c hj => ?_) (fun j c hj => hval _ j row c hrow hj)
      exact hcell _ j row c hrow hj
  unfold aindex at h
  split at h
  · rename_i tok len
    split at h
    case h_2 => cases h
    rename_i b hb
    split at h
    case isFalse => cases h
    rename_i hc
    cases h
    obtain ⟨hl, h0, h1, hs⟩ := hc
    obtain ⟨blk, cap, rfl, hbf⟩ := own_bf hw hx hb hl
    refine ⟨_, run_indexAt_sl he _ _ _ k h0 (by omega), ?_⟩
    rw [addr_add]
    refine .eptr tok len n.toNat 0 _ (lt_of_get hb) fun b' hb' => ?_
    rw [hb] at hb'
    cases hb'
    refine ⟨by omega, fun _ => ⟨blk, cap, by rw [hbf, hl], by simp [hs]⟩⟩
  · rename_i hno
    split at h
    case h_2 => cases h
    rename_i rows hrows
    cases x <;> simp only [arows] at hrows <;> try (cases hrows; done)
    case d dd =>
      cases dd <;> simp only [arows] at hrows <;> try (cases hrows; done)
      cases hrows
      cases hx with
      | d _ _ hd => exact data hd h
    case nilS => cases hrows; simp at h
    case full rs =>
      cases hrows
      cases hx with
      | full _ ad hd => exact data hd h
    case own tok len => exact absurd rfl (hno tok len)

/-! the state of a run -/
structure StG (W0 : World) (g0 : Gh) (A0 : AHeap) (nt : Nat) (env : AEnv) (A : AHeap) (a : Act) (W : World) (g : Gh) (β : Nat → Nat) : Prop where
  w : WRel W g A
  e : ERel W g A W0.heap.size nt β env a
  ev : Ev W0 g0 A0 W g A
  df : a.defers = []

def St (W0 : World) (g0 : Gh) (A0 : AHeap) (nt : Nat) (env : AEnv) (A : AHeap) (a : Act) (W : World) : Prop := ∃ g β, StG W0 g0 A0 nt env A a W g β

theorem put_some (d : Nat) (v : Value) : a.put (some d) v = { a with tmps := a.tmps.setIfInBounds d v } := rfl

/-- a value is laid -/
theorem StG.value (s : StG W0 g0 A0 nt env A a W g β) {x : AV} {v : Value} (r : RelV W' g' A' x v) (hw : WRel W' g' A') (e : Ev W g A W' g' A') {dst : Option Nat} (h : alay nt (dst.map (·, .v x)) env = some env') :
    StG W0 g0 A0 nt env' A' (a.put dst v) W' g' β := by
  have he := s.e.ev e
  cases dst with
  | none => cases h; exact ⟨hw, he, s.ev.trans e, s.df⟩
  | some d =>
    simp only [Option.map_some, alay] at h
    split at h
    case isFalse => cases h
    rename_i hd
    cases h
    refine ⟨hw, ?_, s.ev.trans e, s.df⟩
    rw [put_some]
    refine he.put (.v x v ?_ r) (fun cs h => by cases h)
    have := s.e.size
    simp [this, hd]

theorem StG.place (s : StG W0 g0 A0 nt env A a W g β) {q off : Nat} {dst : Option Nat} (h : alay nt (dst.map (·, .place q off)) env = some env') :
    StG W0 g0 A0 nt env' A (a.put dst (.pointer (some ⟨β q, off, none⟩))) W g β := by
  cases dst with
  | none => cases h; exact s
  | some d =>
    simp only [Option.map_some, alay] at h
    split at h
    case isFalse => cases h
    rename_i hd
    cases h
    refine ⟨s.w, ?_, s.ev, s.df⟩
    rw [put_some]
    refine s.e.put (.place q off ?_) (fun cs h => by cases h)
    have := s.e.size
    simp [this, hd]

theorem noPlaceOf_spec {d : Nat} : ∀ {env : AEnv} {t s off : Nat}, noPlaceOf d env = true → alook env t = some (.place s off) → s ≠ d
  | [], t, s, off, _, h => by cases h
  | (q, x) :: l, t, s, off, hn, h => by
    rw [alook_cons_eq] at h
    cases x with
    | place s' off' =>
      simp only [noPlaceOf, Bool.and_eq_true, bne_iff_ne] at hn
      split at h
      · cases h; exact hn.1
      · exact noPlaceOf_spec hn.2 h
    | v y =>
      simp only [noPlaceOf] at hn
      split at h
      · cases h
      · exact noPlaceOf_spec hn h
    | box cs =>
      simp only [noPlaceOf] at hn
      split at h
      · cases h
      · exact noPlaceOf_spec hn h

/-- a variable of the frame's own -/
theorem StG.newBox (s : StG W0 g0 A0 nt env A a W g β) {d : Nat} (hd : d < nt) (hn : noPlaceOf d env = true) {cs : List AV} {vs : Array Value} {T : TypeId} (r : RelL W g A cs vs.toList) :
    ∃ β', StG W0 g0 A0 nt ((d, .box cs) :: env) A (a.put (some d) (.pointer (some ⟨W.heap.size, 0, none⟩))) (W.alloc (.cells vs T)) g β' := by
  have hw := s.w
  have e := Ev.alloc hw (o := .cells vs T) rfl
  have hown : g.own W.heap.size = none := by
    cases h : g.own W.heap.size with
    | none => rfl
    | some o => have := hw.lt _ _ h; omega
  have hS : ∀ o, ¬ g.S W.heap.size o := fun o h => by have := hw.stab _ _ h; omega
  have hsz := s.e.size
  refine ⟨fun t => if t = d then W.heap.size else β t, hw.alloc rfl, ?_, s.ev.trans e, s.df⟩
  have he := s.e.ev e
  have hblk : ∀ t cs', alook env t = some (.box cs') → β t < W.heap.size := by
    intro t cs' h
    cases s.e.slot t _ h with
    | box _ h1 vs' T' hw' _ _ _ => exact lt_heap hw'
  rw [put_some]
  refine ⟨by simpa using hsz, fun t x hx => ?_, fun p q c1 c2 h1 h2 h3 => ?_, fun t c h => ?_⟩
  · rw [alook_cons_eq] at hx
    split at hx
    · rename_i hdt
      subst hdt
      cases hx
      refine .box cs ?_ vs T ?_ (e.relL r) ?_ ?_
      · simp [hsz, hd]
      · simp only [if_true]; exact heap_alloc_new W _
      · simpa using hown
      · simpa using hS
    · rename_i hdt
      have hdt' : ¬ t = d := fun h => hdt h.symm
      cases he.slot t x hx with
      | v y u h1 r1 => exact .v y u (by rw [Array.getElem?_setIfInBounds_ne hdt]; exact h1) r1
      | box c h1 vs' T' hw' r' ho hs =>
        refine .box c ?_ vs' T' ?_ r' ?_ ?_
        · rw [Array.getElem?_setIfInBounds_ne hdt]; simpa [hdt'] using h1
        · simpa [hdt'] using hw'
        · simpa [hdt'] using ho
        · simpa [hdt'] using hs
      | place q off h1 =>
        have hq := noPlaceOf_spec hn hx
        refine .place q off ?_
        rw [Array.getElem?_setIfInBounds_ne hdt]
        simpa [hq] using h1
  · rw [alook_cons_eq] at h1 h2
    split at h1
    · rename_i hp
      subst hp
      split at h2
      · rename_i hq; exact hq
      · rename_i hq
        have hq' : ¬ q = d := fun h => hq h.symm
        simp only [if_true, hq', if_false] at h3
        have := hblk q _ h2
        omega
    · rename_i hp
      have hp' : ¬ p = d := fun h => hp h.symm
      split at h2
      · rename_i hq
        subst hq
        simp only [hp', if_false, if_true] at h3
        have := hblk p _ h1
        omega
      · rename_i hq
        have hq' : ¬ q = d := fun h => hq h.symm
        simp only [hp', hq', if_false] at h3
        exact s.e.inj p q c1 c2 h1 h2 h3
  · rw [alook_cons_eq] at h
    have hle := s.ev.size
    split at h
    · rename_i ht; subst ht; simp; exact hle
    · rename_i ht
      have ht' : ¬ t = d := fun h => ht h.symm
      simp only [ht', if_false]
      exact s.e.young t c h

/-- a box is written -/
theorem StG.setBox (s : StG W0 g0 A0 nt env A a W g β) {q : Nat} {cs cs' : List AV} {vs vs' : Array Value} {T : TypeId} (hq : alook env q = some (.box cs)) (hb : W.heap[β q]? = some (.cells vs T (0, 0))) (r : RelL W g A cs' vs'.toList) (hqn : q < nt) :
    StG W0 g0 A0 nt ((q, .box cs') :: env) A a (W.setRow (β q) vs') g β := by
  have hw := s.w
  cases s.e.slot q _ hq with
  | box _ h1 vs0 T0 hw0 r0 ho hs =>
  have hloc := setRow_local (W := W) (β q) vs'
  have hN := s.e.young q _ hq
  have ev : EvV W g A (W.setRow (β q) vs') g A := .loc hloc hs
  refine ⟨hw.loc hloc hs ho, ⟨s.e.size, fun t x hx => ?_, fun p p' c1 c2 e1 e2 e3 => ?_, fun t c h => ?_⟩, s.ev.loc hloc hs hN, s.df⟩
  · rw [alook_cons_eq] at hx
    split at hx
    · rename_i ht
      subst ht
      cases hx
      exact .box cs' h1 vs' T (setRow_heap W _ vs vs' T (0, 0) hb) (ev.relL r) ho hs
    · rename_i ht
      cases hsl : s.e.slot t x hx with
      | v y u h1 r1 => exact .v y u h1 (ev.relV r1)
      | box c h2 vs2 T2 hw2 r2 ho2 hs2 =>
        have hne : β t ≠ β q := fun e => ht (s.e.inj t q _ _ hx hq e).symm
        exact .box c h2 vs2 T2 ((hloc.heap _ hne).trans hw2) (ev.relL r2) ho2 hs2
      | place p off h2 => exact .place p off h2
  · have k1 : ∃ c, alook env p = some (.box c) := by
      rw [alook_cons_eq] at e1
      split at e1
      · rename_i h; subst h; exact ⟨_, hq⟩
      · exact ⟨_, e1⟩
    have k2 : ∃ c, alook env p' = some (.box c) := by
      rw [alook_cons_eq] at e2
      split at e2
      · rename_i h; subst h; exact ⟨_, hq⟩
      · exact ⟨_, e2⟩
    obtain ⟨d1, k1⟩ := k1
    obtain ⟨d2, k2⟩ := k2
    exact s.e.inj p p' _ _ k1 k2 e3
  · rw [alook_cons_eq] at h
    split at h
    · rename_i ht; subst ht; exact hN
    · exact s.e.young t c h

end
end Go.Abs
