/- What the abstract machine's values, heap and slots say of the model's world. -/
import Derived.Test.YtfoibmfocmjmdaaAbsEq
import Derived.Laws.AppendOwn
set_option linter.unusedVariables false
set_option linter.unusedSimpArgs false
set_option linter.all false
set_option linter.deprecated false
namespace Go.Abs

inductive Owner where
  | obj (id : Nat)
  | buf (tok : Nat)

/-- stable cells; where objects and buffers lie; who owns a block -/
structure Gh where
  S : Nat → Nat → Prop
  ob : Nat → Nat
  bf : Nat → Value
  own : Nat → Option Owner

inductive RelD (W : World) (S : Nat → Nat → Prop) : Dat → Value → Prop where
  | bool (b : Bool) : RelD W S (.bool b) (.bool b)
  | int (k : IntKind) (n : Int) : RelD W S (.int k n) (.int k n)
  | str (s : ByteArray) : RelD W S (.str s.data.toList) (.string s)
  | empty (a : Option Addr) (cap : Nat) : RelD W S (.slice []) (.slice a 0 cap)
  | slice (rows : List (List Dat)) (b o cap sz : Nat) (val : Nat → Nat → Value) (hcap : rows.length ≤ cap)
      (hlen : ∀ (i : Nat) (row : List Dat), rows[i]? = some row → row.length = sz)
      (hcell : ∀ (i j : Nat) (row : List Dat) (c : Dat), rows[i]? = some row → row[j]? = some c → S b (o + i * sz + j) ∧ W.cell? ⟨b, o + i * sz + j, none⟩ = some (val i j))
      (hval : ∀ (i j : Nat) (row : List Dat) (c : Dat), rows[i]? = some row → row[j]? = some c → RelD W S c (val i j)) :
      RelD W S (.slice rows) (.slice (some ⟨b, o, none⟩) rows.length cap)

theorem RelD.mono {W W' : World} {S S' : Nat → Nat → Prop} (h : ∀ b o, S b o → S' b o ∧ W'.cell? ⟨b, o, none⟩ = W.cell? ⟨b, o, none⟩) {d : Dat} {v : Value} (r : RelD W S d v) : RelD W' S' d v := by
  induction r with
  | bool b => exact .bool b
  | int k n => exact .int k n
  | str s => exact .str s
  | empty a cap => exact .empty a cap
  | slice rows b o cap sz val hcap hlen hcell hval ih =>
    exact .slice rows b o cap sz val hcap hlen (fun i j row c h1 h2 => by
      obtain ⟨hs, hc⟩ := hcell i j row c h1 h2
      exact ⟨(h _ _ hs).1, (h _ _ hs).2.trans hc⟩) ih

inductive RelV (W : World) (g : Gh) (A : AHeap) : AV → Value → Prop where
  | d (x : Dat) (v : Value) (h : RelD W g.S x v) : RelV W g A (.d x) v
  | nilS : RelV W g A .nilS (.slice none 0 0)
  | full (rows : List (List Dat)) (a : Addr) (h : RelD W g.S (.slice rows) (.slice (some a) rows.length rows.length)) : RelV W g A (.full rows) (.slice (some a) rows.length rows.length)
  | own (tok len : Nat) (a : Option Addr) (cap : Nat) (ht : tok < A.bufs.length)
      (h : ∀ b, A.bufs[tok]? = some b → len ≤ b.rows.length ∧ (b.rows.length = len → Value.slice a len cap = g.bf tok)) : RelV W g A (.own tok len) (.slice a len cap)
  | nilP : RelV W g A .nilP (.pointer none)
  | ptr (id off : Nat) (h : id < A.objs.length) : RelV W g A (.ptr id off) (.pointer (some ⟨g.ob id, off, none⟩))
  | sptr (ds : List Dat) (b o : Nat) (val : Nat → Value)
      (hcell : ∀ (j : Nat) (c : Dat), ds[j]? = some c → g.S b (o + j) ∧ W.cell? ⟨b, o + j, none⟩ = some (val j))
      (hval : ∀ (j : Nat) (c : Dat), ds[j]? = some c → RelD W g.S c (val j)) : RelV W g A (.sptr ds) (.pointer (some ⟨b, o, none⟩))
  | eptr (tok len i off : Nat) (p : Addr) (ht : tok < A.bufs.length)
      (h : ∀ b, A.bufs[tok]? = some b → len ≤ b.rows.length ∧ (b.rows.length = len → ∃ blk cap, g.bf tok = .slice (some ⟨blk, 0, none⟩) len cap ∧ p = ⟨blk, i * b.sz + off, none⟩)) :
      RelV W g A (.eptr tok len i off) (.pointer (some p))
  | nilF : RelV W g A .nilF .nilFunc
  | nilM : RelV W g A .nilM (.map none)
  | func (fn : Fn) (first captured : List AV) (vs us : List Value) (h1 : first.length = vs.length) (h2 : captured.length = us.length)
      (r1 : ∀ (i : Nat) (x : AV) (v : Value), first[i]? = some x → vs[i]? = some v → RelV W g A x v)
      (r2 : ∀ (i : Nat) (x : AV) (v : Value), captured[i]? = some x → us[i]? = some v → RelV W g A x v) : RelV W g A (.func fn first captured) (.func fn vs.toArray us.toArray)
  | mapr (id : Nat) (h : id < A.objs.length) : RelV W g A (.mapr id) (.map (some (g.ob id)))
  | agg (cs : List AV) (vs : List Value) (h : cs.length = vs.length)
      (r : ∀ (i : Nat) (x : AV) (v : Value), cs[i]? = some x → vs[i]? = some v → RelV W g A x v) : RelV W g A (.agg cs) (.agg vs.toArray)
  | tuple (cs : List AV) (vs : List Value) (h : cs.length = vs.length)
      (r : ∀ (i : Nat) (x : AV) (v : Value), cs[i]? = some x → vs[i]? = some v → RelV W g A x v) : RelV W g A (.tuple cs) (.tuple vs.toArray)

/-- lists, one by one -/
def RelL (W : World) (g : Gh) (A : AHeap) (cs : List AV) (vs : List Value) : Prop :=
  cs.length = vs.length ∧ ∀ (i : Nat) (x : AV) (v : Value), cs[i]? = some x → vs[i]? = some v → RelV W g A x v

/-- what is not the heap, and what strings share, stands -/
structure Rest (W W' : World) : Prop where
  os : W'.os = W.os
  out : W'.output = W.output
  fz : ∀ a, W'.frozen? a = W.frozen? a

theorem Rest.refl (W : World) : Rest W W := ⟨rfl, rfl, fun _ => rfl⟩
theorem Rest.trans {W W' W'' : World} (h : Rest W W') (h' : Rest W' W'') : Rest W W'' := ⟨h'.os.trans h.os, h'.out.trans h.out, fun a => (h'.fz a).trans (h.fz a)⟩

/-- what may have happened in between: stable cells stand, whatever nobody owns stands -/
structure EvV (W : World) (g : Gh) (A : AHeap) (W' : World) (g' : Gh) (A' : AHeap) : Prop where
  size : W.heap.size ≤ W'.heap.size
  stab : ∀ b o, g.S b o → g'.S b o ∧ W'.cell? ⟨b, o, none⟩ = W.cell? ⟨b, o, none⟩
  ob : ∀ id, id < A.objs.length → g'.ob id = g.ob id
  objs : A.objs.length ≤ A'.objs.length
  bufs : ∀ (tok : Nat) (b : ABuf), A.bufs[tok]? = some b → ∃ b', A'.bufs[tok]? = some b' ∧ b'.sz = b.sz ∧ b.rows.length ≤ b'.rows.length ∧ (b'.rows.length = b.rows.length → g'.bf tok = g.bf tok)
  rest : Rest W W'

structure Ev (W : World) (g : Gh) (A : AHeap) (W' : World) (g' : Gh) (A' : AHeap) : Prop extends EvV W g A W' g' A' where
  free : ∀ b, b < W.heap.size → g.own b = none → W'.heap[b]? = W.heap[b]? ∧ g'.own b = none ∧ ∀ o, g'.S b o → g.S b o

theorem EvV.refl (W : World) (g : Gh) (A : AHeap) : EvV W g A W g A :=
  ⟨Nat.le_refl _, fun _ _ h => ⟨h, rfl⟩, fun _ _ => rfl, Nat.le_refl _, fun _ b h => ⟨b, h, rfl, Nat.le_refl _, fun _ => rfl⟩, .refl W⟩

theorem Ev.refl (W : World) (g : Gh) (A : AHeap) : Ev W g A W g A :=
  ⟨.refl W g A, fun _ _ h => ⟨rfl, h, fun _ x => x⟩⟩

theorem EvV.trans {W W' W'' : World} {g g' g'' : Gh} {A A' A'' : AHeap} (h : EvV W g A W' g' A') (h' : EvV W' g' A' W'' g'' A'') : EvV W g A W'' g'' A'' where
  size := Nat.le_trans h.size h'.size
  stab b o hs := by
    obtain ⟨e1, e2⟩ := h.stab b o hs
    obtain ⟨f1, f2⟩ := h'.stab b o e1
    exact ⟨f1, f2.trans e2⟩
  ob id hi := (h'.ob id (Nat.lt_of_lt_of_le hi h.objs)).trans (h.ob id hi)
  objs := Nat.le_trans h.objs h'.objs
  bufs tok b hb := by
    obtain ⟨b1, e1, e2, e3, e4⟩ := h.bufs tok b hb
    obtain ⟨b2, f1, f2, f3, f4⟩ := h'.bufs tok b1 e1
    refine ⟨b2, f1, f2.trans e2, Nat.le_trans e3 f3, fun he => ?_⟩
    rw [f4 (by omega), e4 (by omega)]
  rest := h.rest.trans h'.rest

theorem Ev.trans {W W' W'' : World} {g g' g'' : Gh} {A A' A'' : AHeap} (h : Ev W g A W' g' A') (h' : Ev W' g' A' W'' g'' A'') : Ev W g A W'' g'' A'' where
  toEvV := h.toEvV.trans h'.toEvV
  free b hb ho := by
    obtain ⟨e1, e2, e3⟩ := h.free b hb ho
    obtain ⟨f1, f2, f3⟩ := h'.free b (Nat.lt_of_lt_of_le hb h.size) e2
    exact ⟨f1.trans e1, f2, fun o x => e3 o (f3 o x)⟩
theorem EvV.relD {W W' : World} {g g' : Gh} {A A' : AHeap} (h : EvV W g A W' g' A') {d : Dat} {v : Value} (r : RelD W g.S d v) : RelD W' g'.S d v := r.mono h.stab

theorem lt_of_get {α : Type} {l : List α} {i : Nat} {x : α} (h : l[i]? = some x) : i < l.length := by
  rcases Nat.lt_or_ge i l.length with h' | h'
  · exact h'
  · rw [List.getElem?_eq_none h'] at h; cases h

theorem EvV.lenBufs {W W' : World} {g g' : Gh} {A A' : AHeap} (h : EvV W g A W' g' A') {tok : Nat} (ht : tok < A.bufs.length) : tok < A'.bufs.length := by
  obtain ⟨b, hb⟩ : ∃ b, A.bufs[tok]? = some b := ⟨_, List.getElem?_eq_getElem ht⟩
  obtain ⟨b', hb', _⟩ := h.bufs tok b hb
  exact lt_of_get hb'

theorem EvV.relV {W W' : World} {g g' : Gh} {A A' : AHeap} (h : EvV W g A W' g' A') {x : AV} {v : Value} (r : RelV W g A x v) : RelV W' g' A' x v := by
  induction r with
  | d x v hx => exact .d x v (h.relD hx)
  | nilS => exact .nilS
  | full rows a hx => exact .full rows a (h.relD hx)
  | own tok len a cap ht hx =>
    refine .own tok len a cap (h.lenBufs ht) fun b' hb' => ?_
    obtain ⟨b, hb⟩ : ∃ b, A.bufs[tok]? = some b := ⟨_, List.getElem?_eq_getElem ht⟩
    obtain ⟨b'', hb'', _, hl, hbf⟩ := h.bufs tok b hb
    rw [hb'] at hb''
    cases hb''
    obtain ⟨h1, h2⟩ := hx b hb
    exact ⟨by omega, fun he => by rw [hbf (by omega)]; exact h2 (by omega)⟩
  | nilP => exact .nilP
  | ptr id off hi =>
    have := RelV.ptr (W := W') (g := g') (A := A') id off (Nat.lt_of_lt_of_le hi h.objs)
    rwa [h.ob id hi] at this
  | sptr ds b o val hcell hval =>
    refine .sptr ds b o val (fun j c hj => ?_) (fun j c hj => h.relD (hval j c hj))
    obtain ⟨h1, h2⟩ := hcell j c hj
    exact ⟨(h.stab _ _ h1).1, (h.stab _ _ h1).2.trans h2⟩
  | eptr tok len i off v ht hx =>
    refine .eptr tok len i off v (h.lenBufs ht) fun b' hb' => ?_
    obtain ⟨b, hb⟩ : ∃ b, A.bufs[tok]? = some b := ⟨_, List.getElem?_eq_getElem ht⟩
    obtain ⟨b'', hb'', hsz, hl, hbf⟩ := h.bufs tok b hb
    rw [hb'] at hb''
    cases hb''
    obtain ⟨h1, h2⟩ := hx b hb
    refine ⟨by omega, fun he => ?_⟩
    obtain ⟨blk, cap, e1, e2⟩ := h2 (by omega)
    exact ⟨blk, cap, (hbf (by omega)).trans e1, by rw [hsz]; exact e2⟩
  | nilF => exact .nilF
  | nilM => exact .nilM
  | func fn first captured vs us h1 h2 r1 r2 ih1 ih2 => exact .func fn first captured vs us h1 h2 ih1 ih2
  | mapr id hi =>
    have := RelV.mapr (W := W') (g := g') (A := A') id (Nat.lt_of_lt_of_le hi h.objs)
    rwa [h.ob id hi] at this
  | agg cs vs hl r ih => exact .agg cs vs hl ih
  | tuple cs vs hl r ih => exact .tuple cs vs hl ih

theorem EvV.relL {W W' : World} {g g' : Gh} {A A' : AHeap} (h : EvV W g A W' g' A') {cs : List AV} {vs : List Value} (r : RelL W g A cs vs) : RelL W' g' A' cs vs :=
  ⟨r.1, fun i x v h1 h2 => h.relV (r.2 i x v h1 h2)⟩

/-! the heap -/
def ObjAt (W : World) (g : Gh) (A : AHeap) (blk : Nat) : AObj → Prop
  | .cells cs => ∃ vs T, W.heap[blk]? = some (.cells vs T (0, 0)) ∧ RelL W g A cs vs.toList
  | .map es => ∃ mes clock, W.heap[blk]? = some (.map mes clock) ∧ mes.size = es.length ∧
      ∀ (i : Nat) (k : Dat) (x : AV) (m : MapEntry), es[i]? = some (k, x) → mes[i]? = some m → RelD W g.S k m.key ∧ RelV W g A x m.val
  | .iter s pos => W.heap[blk]? = some (.stringIter ⟨s.toArray⟩ pos)

structure BufAt (W : World) (g : Gh) (tok : Nat) (b : ABuf) : Prop where
  ex : ∃ blk cap vs, g.bf tok = .slice (some ⟨blk, 0, none⟩) b.rows.length cap ∧ g.own blk = some (.buf tok) ∧ W.heap[blk]? = some (.cells vs b.e (0, 0)) ∧
    vs.size = cap * b.sz ∧ b.rows.length ≤ cap ∧ cap ≤ maxLen ∧ b.frozen ≤ b.rows.length ∧
    (∀ (i : Nat) (row : List Dat), b.rows[i]? = some row → row.length = b.sz) ∧
    (∀ (i j : Nat) (row : List Dat) (c : Dat), b.rows[i]? = some row → row[j]? = some c → ∃ v, vs[i * b.sz + j]? = some v ∧ RelD W g.S c v) ∧
    (∀ k, g.S blk k → k < b.frozen * b.sz)

structure WRel (W : World) (g : Gh) (A : AHeap) : Prop where
  obj : ∀ (id : Nat) (o : AObj), A.objs[id]? = some o → g.own (g.ob id) = some (.obj id) ∧ ObjAt W g A (g.ob id) o
  buf : ∀ (tok : Nat) (b : ABuf), A.bufs[tok]? = some b → BufAt W g tok b
  lt : ∀ blk o, g.own blk = some o → blk < W.heap.size
  stab : ∀ b o, g.S b o → b < W.heap.size
  sobj : ∀ blk id o, g.own blk = some (.obj id) → ¬ g.S blk o

/-! a frame's slots -/
inductive SlotRel (W : World) (g : Gh) (A : AHeap) (β : Nat → Nat) (a : Act) (t : Nat) : Slot → Prop where
  | v (x : AV) (u : Value) (h : a.tmps[t]? = some u) (r : RelV W g A x u) : SlotRel W g A β a t (.v x)
  | box (cs : List AV) (h : a.tmps[t]? = some (.pointer (some ⟨β t, 0, none⟩))) (vs : Array Value) (T : TypeId) (hw : W.heap[β t]? = some (.cells vs T (0, 0))) (r : RelL W g A cs vs.toList)
      (ho : g.own (β t) = none) (hs : ∀ o, ¬ g.S (β t) o) : SlotRel W g A β a t (.box cs)
  | place (s off : Nat) (h : a.tmps[t]? = some (.pointer (some ⟨β s, off, none⟩))) : SlotRel W g A β a t (.place s off)

/-- N: how many blocks there were when the function was entered -/
structure ERel (W : World) (g : Gh) (A : AHeap) (N nt : Nat) (β : Nat → Nat) (env : AEnv) (a : Act) : Prop where
  size : a.tmps.size = nt
  slot : ∀ (t : Nat) (s : Slot), alook env t = some s → SlotRel W g A β a t s
  inj : ∀ (s t : Nat) (cs ds : List AV), alook env s = some (.box cs) → alook env t = some (.box ds) → β s = β t → s = t
  young : ∀ (t : Nat) (cs : List AV), alook env t = some (.box cs) → N ≤ β t

theorem lt_heap {W : World} {b : Nat} {o : Obj} (h : W.heap[b]? = some o) : b < W.heap.size := by
  rcases Nat.lt_or_ge b W.heap.size with h' | h'
  · exact h'
  · rw [Array.getElem?_eq_none h'] at h; cases h

/-- the slots stand when the world goes on -/
theorem ERel.ev {W W' : World} {g g' : Gh} {A A' : AHeap} {N nt : Nat} {β : Nat → Nat} {env : AEnv} {a : Act} (h : ERel W g A N nt β env a) (e : Ev W g A W' g' A') : ERel W' g' A' N nt β env a where
  size := h.size
  slot t s hs := by
    cases h.slot t s hs with
    | v x u h1 r => exact .v x u h1 (e.relV r)
    | box cs h1 vs T hw r ho hS =>
      obtain ⟨e1, e2, e3⟩ := e.free _ (lt_heap hw) ho
      exact .box cs h1 vs T (e1.trans hw) (e.relL r) e2 (fun o x => hS o (e3 o x))
    | place s off h1 => exact .place s off h1
  inj := h.inj
  young := h.young

theorem alook_cons_eq (env : AEnv) (d t : Nat) (s : Slot) : alook ((d, s) :: env) t = if d = t then some s else alook env t := rfl

/-- a value is laid -/
theorem ERel.put {W : World} {g : Gh} {A : AHeap} {N nt : Nat} {β : Nat → Nat} {env : AEnv} {a : Act} (h : ERel W g A N nt β env a) {d : Nat} {s : Slot} {u : Value}
    (hs : SlotRel W g A β { a with tmps := a.tmps.setIfInBounds d u } d s) (hb : ∀ cs, s ≠ .box cs) : ERel W g A N nt β ((d, s) :: env) { a with tmps := a.tmps.setIfInBounds d u } where
  size := by simpa using h.size
  slot t s' hs' := by
    rw [alook_cons_eq] at hs'
    split at hs'
    · rename_i he; subst he; cases hs'; exact hs
    · rename_i he
      cases h.slot t s' hs' with
      | v x u' h1 r => exact .v x u' (by rw [Array.getElem?_setIfInBounds_ne he]; exact h1) r
      | box cs h1 vs T hw r ho hS => exact .box cs (by rw [Array.getElem?_setIfInBounds_ne he]; exact h1) vs T hw r ho hS
      | place q off h1 => exact .place q off (by rw [Array.getElem?_setIfInBounds_ne he]; exact h1)
  inj x y cs ds hx hy he := by
    rw [alook_cons_eq] at hx hy
    split at hx
    · cases hx; exact absurd rfl (hb cs)
    · split at hy
      · cases hy; exact absurd rfl (hb ds)
      · exact h.inj x y cs ds hx hy he
  young t cs ht := by
    rw [alook_cons_eq] at ht
    split at ht
    · cases ht; exact absurd rfl (hb cs)
    · exact h.young t cs ht

end Go.Abs
