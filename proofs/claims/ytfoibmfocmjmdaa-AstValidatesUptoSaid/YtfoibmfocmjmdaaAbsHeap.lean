/- The world's changes: new blocks, objects, growing slices; what is frozen. -/
import Derived.Test.YtfoibmfocmjmdaaAbsOps
import Derived.RowKit3
import Derived.Carry
set_option linter.unusedVariables false
set_option linter.unusedSimpArgs false
set_option linter.all false
set_option linter.deprecated false
namespace Go.Abs

section
variable {P : Program} {W W' : World} {g g' : Gh} {A A' : AHeap}

theorem ObjAt.ev (e : EvV W g A W' g' A') {blk : Nat} (h : W'.heap[blk]? = W.heap[blk]?) {o : AObj} (r : ObjAt W g A blk o) : ObjAt W' g' A' blk o := by
  cases o with
  | cells cs =>
    obtain ⟨vs, T, h1, h2⟩ := r
    exact ⟨vs, T, h.trans h1, e.relL h2⟩
  | map es =>
    obtain ⟨mes, clock, h1, h2, h3⟩ := r
    refine ⟨mes, clock, h.trans h1, h2, fun i k x m e1 e2 => ?_⟩
    obtain ⟨a2, a4⟩ := h3 i k x m e1 e2
    exact ⟨e.relD a2, e.relV a4⟩
  | iter s pos => exact h.trans r

theorem BufAt.keep {tok : Nat} {b : ABuf} (h : BufAt W g tok b) (hbf : g'.bf tok = g.bf tok) (hown : ∀ blk, g.own blk = some (.buf tok) → g'.own blk = some (.buf tok))
    (hheap : ∀ blk, g.own blk = some (.buf tok) → W'.heap[blk]? = W.heap[blk]?) (hS : ∀ blk k, g.own blk = some (.buf tok) → g'.S blk k → g.S blk k)
    (hD : ∀ d v, RelD W g.S d v → RelD W' g'.S d v) : BufAt W' g' tok b := by
  obtain ⟨blk, cap, vs, h1, h2, h3, h4, h5, h6, h7, h8, h9, h10⟩ := h.ex
  refine ⟨blk, cap, vs, hbf.trans h1, hown _ h2, (hheap _ h2).trans h3, h4, h5, h6, h7, h8, fun i j row c e1 e2 => ?_, fun k hk => h10 k (hS _ _ h2 hk)⟩
  obtain ⟨v, hv, hr⟩ := h9 i j row c e1 e2
  exact ⟨v, hv, hD _ _ hr⟩

/-- the heap is the same -/
theorem Ev.same (h : W'.heap = W.heap) (hr : Rest W W') : Ev W g A W' g A where
  rest := hr
  size := by rw [h]; exact Nat.le_refl _
  free b _ ho := ⟨by rw [h], ho, fun _ x => x⟩
  stab b o hs := ⟨hs, by simp [World.cell?, h]⟩
  ob _ _ := rfl
  objs := Nat.le_refl _
  bufs tok b hb := ⟨b, hb, rfl, Nat.le_refl _, fun _ => rfl⟩

theorem WRel.same (hw : WRel W g A) (h : W'.heap = W.heap) (hr : Rest W W') : WRel W' g A where
  obj id o ho := ⟨(hw.obj id o ho).1, ((hw.obj id o ho).2).ev (Ev.same (g := g) (A := A) h hr).toEvV (by rw [h])⟩
  buf tok b hb := (hw.buf tok b hb).keep rfl (fun _ x => x) (fun _ _ => by rw [h]) (fun _ _ _ x => x) (fun _ _ r => (Ev.same (g := g) (A := A) h hr).relD r)
  lt blk o ho := by rw [h]; exact hw.lt blk o ho
  stab b o hs := by rw [h]; exact hw.stab b o hs
  sobj := hw.sobj

theorem heap_alloc_get {o : Obj} {b : Nat} (hb : b < W.heap.size) : (W.alloc o).heap[b]? = W.heap[b]? := heap_alloc_old W o b hb

theorem cell_alloc {o : Obj} {b k : Nat} (hb : b < W.heap.size) : (W.alloc o).cell? ⟨b, k, none⟩ = W.cell? ⟨b, k, none⟩ := World.cell?_alloc_lt W o ⟨b, k, none⟩ hb

/-- the new block's cells are stable from now on -/
def Gh.addS (g : Gh) (n : Nat) : Gh := { g with S := fun b o => g.S b o ∨ b = n }

/-- nothing of it is shared with a string -/
def plainObj : Obj → Prop
  | .cells _ _ fz => fz = (0, 0)
  | .map _ _ => True
  | .stringIter _ _ => True
  | _ => False

theorem Rest.alloc (W : World) {o : Obj} (h : plainObj o) : Rest W (W.alloc o) := by
  refine ⟨rfl, rfl, fun a => ?_⟩
  cases o with
  | cells c t fz => cases h; exact RowKit.frozen?_alloc_cells W c t a
  | map es c => exact RowKit.frozen?_alloc_map W es c a
  | stringIter s p =>
    by_cases hb : a.block = W.heap.size
    · have e1 : (W.alloc (.stringIter s p)).heap[a.block]? = some (.stringIter s p) := by rw [hb]; exact (MapKept.heap_alloc W _).1
      have e2 : W.heap[a.block]? = none := by rw [hb]; simp
      simp [World.frozen?, e1, e2]
    · exact World.frozen?_alloc_old _ _ _ hb
  | _ => cases h

theorem Ev.alloc (hw : WRel W g A) {o : Obj} (hp : plainObj o) : Ev W g A (W.alloc o) g A where
  rest := .alloc W hp
  size := by simp
  free b hb ho := ⟨heap_alloc_get hb, ho, fun _ x => x⟩
  stab b k hs := ⟨hs, cell_alloc (hw.stab b k hs)⟩
  ob _ _ := rfl
  objs := Nat.le_refl _
  bufs tok b hb := ⟨b, hb, rfl, Nat.le_refl _, fun _ => rfl⟩

theorem WRel.alloc (hw : WRel W g A) {o : Obj} (hp : plainObj o) : WRel (W.alloc o) g A where
  obj id x hx := ⟨(hw.obj id x hx).1, ((hw.obj id x hx).2).ev (Ev.alloc hw hp).toEvV (heap_alloc_get (hw.lt _ _ (hw.obj id x hx).1))⟩
  buf tok b hb := (hw.buf tok b hb).keep rfl (fun _ x => x) (fun blk h => heap_alloc_get (hw.lt _ _ h)) (fun _ _ _ x => x) (fun _ _ r => (Ev.alloc hw hp).relD r)
  lt blk x hx := by have := hw.lt blk x hx; simp; omega
  stab b k hs := by have := hw.stab b k hs; simp; omega
  sobj := hw.sobj

theorem Ev.addS (n : Nat) (hn : W.heap.size ≤ n) : Ev W g A W (g.addS n) A where
  rest := .refl W
  size := Nat.le_refl _
  free b hb ho := ⟨rfl, ho, fun o x => by rcases x with x | x <;> first | exact x | omega⟩
  stab b k hs := ⟨.inl hs, rfl⟩
  ob _ _ := rfl
  objs := Nat.le_refl _
  bufs tok b hb := ⟨b, hb, rfl, Nat.le_refl _, fun _ => rfl⟩

/-- a new block whose cells are stable -/
theorem Ev.allocS (hw : WRel W g A) {o : Obj} (hp : plainObj o) : Ev W g A (W.alloc o) (g.addS W.heap.size) A where
  rest := .alloc W hp
  size := by simp
  free b hb ho := ⟨heap_alloc_get hb, ho, fun o x => by rcases x with x | x <;> first | exact x | omega⟩
  stab b k hs := ⟨.inl hs, cell_alloc (hw.stab b k hs)⟩
  ob _ _ := rfl
  objs := Nat.le_refl _
  bufs tok b hb := ⟨b, hb, rfl, Nat.le_refl _, fun _ => rfl⟩

theorem WRel.allocS (hw : WRel W g A) {o : Obj} (hp : plainObj o) : WRel (W.alloc o) (g.addS W.heap.size) A where
  obj id x hx := ⟨(hw.obj id x hx).1, ((hw.obj id x hx).2).ev (Ev.allocS hw hp).toEvV (heap_alloc_get (hw.lt _ _ (hw.obj id x hx).1))⟩
  buf tok b hb := (hw.buf tok b hb).keep rfl (fun _ x => x) (fun blk h => heap_alloc_get (hw.lt _ _ h))
    (fun blk k h x => by have := hw.lt _ _ h; rcases x with x | x <;> first | exact x | omega) (fun _ _ r => (Ev.allocS hw hp).relD r)
  lt blk x hx := by have := hw.lt blk x hx; simp; omega
  stab b k hs := by
    rcases hs with hs | hs
    · have := hw.stab b k hs; simp; omega
    · simp; omega
  sobj blk id k h x := by
    rcases x with x | x
    · exact hw.sobj blk id k h x
    · have := hw.lt _ _ h; omega

/-! ### what is handed on as data is frozen -/
/-- the rows of a buffer are stable from now on -/
def Gh.freeze (g : Gh) (blk n : Nat) : Gh := { g with S := fun b o => g.S b o ∨ (b = blk ∧ o < n) }

theorem freeze_get (A : AHeap) (tok t : Nat) : (A.freeze tok).bufs[t]? = if t = tok then (A.bufs[t]?).map (fun b => { b with frozen := b.rows.length }) else A.bufs[t]? := by
  unfold AHeap.freeze
  simp only [List.getElem?_modify]
  by_cases h : t = tok
  · subst h
    cases A.bufs[t]? <;> simp
  · have h' : ¬ tok = t := fun e => h e.symm
    cases A.bufs[t]? <;> simp [h, h']

theorem frozen_rel (hw : WRel W g A) {tok : Nat} {b : ABuf} (hb : A.bufs[tok]? = some b) {cap : Nat} {blk : Nat} (hbf : g.bf tok = .slice (some ⟨blk, 0, none⟩) b.rows.length cap) :
    RelD W (g.freeze blk (b.rows.length * b.sz)).S (.slice b.rows) (.slice (some ⟨blk, 0, none⟩) b.rows.length cap) ∧ WRel W (g.freeze blk (b.rows.length * b.sz)) (A.freeze tok) ∧
      Ev W g A W (g.freeze blk (b.rows.length * b.sz)) (A.freeze tok) := by
  obtain ⟨blk', cap', vs, h1, h2, h3, h4, h5, h6, h7, h8, h9, h10⟩ := (hw.buf tok b hb).ex
  rw [hbf] at h1
  cases h1
  have hev : Ev W g A W (g.freeze blk (b.rows.length * b.sz)) (A.freeze tok) := by
    refine ⟨⟨Nat.le_refl _, fun c o hs => ⟨.inl hs, rfl⟩, fun _ _ => rfl, Nat.le_refl _, fun t c hc => ?_, .refl W⟩, fun c hc ho => ⟨rfl, ho, fun o x => ?_⟩⟩
    · rw [freeze_get]
      by_cases ht : t = tok
      · rw [if_pos ht, hc]
        exact ⟨_, rfl, rfl, Nat.le_refl _, fun _ => rfl⟩
      · rw [if_neg ht]
        exact ⟨c, hc, rfl, Nat.le_refl _, fun _ => rfl⟩
    · rcases x with x | ⟨rfl, _⟩
      · exact x
      · rw [h2] at ho; cases ho
  have hbound : ∀ (i j : Nat) (row : List Dat) (c : Dat), b.rows[i]? = some row → row[j]? = some c → i * b.sz + j < b.rows.length * b.sz := by
    intro i j row c e1 e2
    have hj := lt_of_get e2
    rw [h8 i row e1] at hj
    have hi := lt_of_get e1
    calc i * b.sz + j < i * b.sz + b.sz := by omega
      _ = (i + 1) * b.sz := by rw [Nat.add_mul, Nat.one_mul]
      _ ≤ b.rows.length * b.sz := Nat.mul_le_mul_right _ hi
  refine ⟨?_, ?_, hev⟩
  · have := RelD.slice (W := W) (S := (g.freeze blk (b.rows.length * b.sz)).S) b.rows blk 0 cap b.sz (fun i j => vs.getD (i * b.sz + j) undef) h5 h8 (fun i j row c e1 e2 => ?_) (fun i j row c e1 e2 => ?_)
    · exact this
    · obtain ⟨v, hv, hr⟩ := h9 i j row c e1 e2
      refine ⟨.inr ⟨rfl, by rw [Nat.zero_add]; exact hbound i j row c e1 e2⟩, ?_⟩
      rw [Nat.zero_add, cell_of_row W blk _ vs b.e (0, 0) h3, Array.getD_eq_getD_getElem?, hv]
      rfl
    · obtain ⟨v, hv, hr⟩ := h9 i j row c e1 e2
      rw [Array.getD_eq_getD_getElem?, hv]
      exact hev.relD hr
  · refine ⟨fun id o ho => ⟨(hw.obj id o ho).1, ((hw.obj id o ho).2).ev hev.toEvV rfl⟩, fun t c hc => ?_, hw.lt, fun c o x => ?_, fun c id o hc x => ?_⟩
    · rw [freeze_get] at hc
      by_cases ht : t = tok
      · subst ht
        rw [if_pos rfl, hb] at hc
        cases hc
        refine ⟨blk, cap, vs, hbf, h2, h3, h4, h5, h6, Nat.le_refl _, h8, fun i j row c e1 e2 => ?_, fun k x => ?_⟩
        · obtain ⟨v, hv, hr⟩ := h9 i j row c e1 e2
          exact ⟨v, hv, hev.relD hr⟩
        · rcases x with x | ⟨_, x⟩
          · have := h10 k x
            exact Nat.lt_of_lt_of_le this (Nat.mul_le_mul_right _ h7)
          · exact x
      · rw [if_neg ht] at hc
        refine (hw.buf t c hc).keep rfl (fun _ x => x) (fun _ _ => rfl) (fun d k hd x => ?_) (fun _ _ r => hev.relD r)
        rcases x with x | ⟨rfl, _⟩
        · exact x
        · rw [h2] at hd; cases hd; exact absurd rfl ht
    · rcases x with x | ⟨rfl, _⟩
      · exact hw.stab c o x
      · exact hw.lt _ _ h2
    · rcases x with x | ⟨rfl, _⟩
      · exact hw.sobj c id o hc x
      · have hc' : g.own c = some (.obj id) := hc
        rw [h2] at hc'; cases hc'

theorem arows_own {tok len : Nat} {rows : List (List Dat)} (h : arows A (.own tok len) = some rows) : ∃ b, A.bufs[tok]? = some b ∧ b.rows.length = len ∧ rows = b.rows := by
  simp only [arows] at h
  split at h
  · rename_i b hb
    split at h
    · rename_i hl; cases h; exact ⟨b, hb, hl, rfl⟩
    · cases h
  · cases h

theorem own_bf (hw : WRel W g A) {tok len : Nat} {v : Value} (hr : RelV W g A (.own tok len) v) {b : ABuf} (hb : A.bufs[tok]? = some b) (hl : b.rows.length = len) :
    ∃ blk cap, v = .slice (some ⟨blk, 0, none⟩) b.rows.length cap ∧ g.bf tok = .slice (some ⟨blk, 0, none⟩) b.rows.length cap := by
  cases hr with
  | own _ _ a cap ht h =>
    have h1 := (h b hb).2 hl
    obtain ⟨blk, cap', vs, e1, _⟩ := (hw.buf tok b hb).ex
    refine ⟨blk, cap', ?_, e1⟩
    rw [h1, e1]

/-- one cell as data -/
theorem adat_rel (hw : WRel W g A) {x : AV} {v : Value} (hr : RelV W g A x v) {d : Dat} {A' : AHeap} (h : adat A x = some (d, A')) :
    ∃ g', RelD W g'.S d v ∧ WRel W g' A' ∧ Ev W g A W g' A' := by
  cases x <;> simp only [adat] at h <;> try (cases h; done)
  case d y => cases h; cases hr with | d _ _ hd => exact ⟨g, hd, hw, .refl _ _ _⟩
  case nilS => cases h; cases hr; exact ⟨g, .empty none 0, hw, .refl _ _ _⟩
  case full rows => cases h; cases hr with | full _ a hd => exact ⟨g, hd, hw, .refl _ _ _⟩
  case own tok len =>
    rw [Option.map_eq_some_iff] at h
    obtain ⟨rows, hrows, h⟩ := h
    cases h
    obtain ⟨b, hb, hl, rfl⟩ := arows_own hrows
    obtain ⟨blk, cap, rfl, hbf⟩ := own_bf hw hr hb hl
    obtain ⟨h1, h2, h3⟩ := frozen_rel hw hb hbf
    exact ⟨_, h1, h2, h3⟩

/-- data, one by one -/
def RelDs (W : World) (S : Nat → Nat → Prop) (ds : List Dat) (vs : List Value) : Prop :=
  ds.length = vs.length ∧ ∀ (i : Nat) (d : Dat) (v : Value), ds[i]? = some d → vs[i]? = some v → RelD W S d v

theorem adats_rel : ∀ {xs : List AV} {vs : List Value} {ds : List Dat} {A A' : AHeap} {g : Gh}, WRel W g A → RelL W g A xs vs → adats A xs = some (ds, A') →
    ∃ g', RelDs W g'.S ds vs ∧ WRel W g' A' ∧ Ev W g A W g' A'
  | [], vs, ds, A, A', g, hw, hr, h => by
    simp only [adats] at h
    cases h
    exact ⟨g, ⟨hr.1, fun i d v h1 => by simp at h1⟩, hw, .refl _ _ _⟩
  | x :: xs, [], ds, A, A', g, hw, hr, h => by have := hr.1; simp at this
  | x :: xs, v :: vs, ds, A, A', g, hw, hr, h => by
    simp only [adats, Option.bind_eq_some_iff, Option.map_eq_some_iff] at h
    obtain ⟨⟨d, A1⟩, h1, ⟨ds', A2⟩, h2, h3⟩ := h
    cases h3
    obtain ⟨g1, r1, w1, e1⟩ := adat_rel hw (hr.2 0 x v rfl rfl) h1
    have hr' : RelL W g1 A1 xs vs := ⟨by have := hr.1; simpa using this, fun i y u a1 a2 => e1.relV (hr.2 (i + 1) y u (by simpa using a1) (by simpa using a2))⟩
    obtain ⟨g2, r2, w2, e2⟩ := adats_rel w1 hr' h2
    refine ⟨g2, ⟨by simp [r2.1], fun i y u a1 a2 => ?_⟩, w2, e1.trans e2⟩
    cases i with
    | zero => simp at a1 a2; subst a1; subst a2; exact e2.relD r1
    | succ i => simp at a1 a2; exact r2.2 i y u a1 a2

/-- a value in which no slice is owned -/
theorem aclean_rel (hw : WRel W g A) {x : AV} {v : Value} (hr : RelV W g A x v) : ∃ g', RelV W g' (aclean A x).2 (aclean A x).1 v ∧ WRel W g' (aclean A x).2 ∧ Ev W g A W g' (aclean A x).2 := by
  unfold aclean
  split
  · cases hr; exact ⟨g, .d _ _ (.empty none 0), hw, .refl _ _ _⟩
  · cases hr with | full _ a hd => exact ⟨g, .d _ _ hd, hw, .refl _ _ _⟩
  · rename_i tok len
    split
    · rename_i rows hrows
      obtain ⟨b, hb, hl, rfl⟩ := arows_own hrows
      obtain ⟨blk, cap, rfl, hbf⟩ := own_bf hw hr hb hl
      obtain ⟨h1, h2, h3⟩ := frozen_rel hw hb hbf
      exact ⟨_, .d _ _ h1, h2, h3⟩
    · exact ⟨g, hr, hw, .refl _ _ _⟩
  · exact ⟨g, hr, hw, .refl _ _ _⟩

theorem acleans_rel : ∀ {xs : List AV} {vs : List Value} {A : AHeap} {g : Gh}, WRel W g A → RelL W g A xs vs →
    ∃ g', RelL W g' (acleans A xs).2 (acleans A xs).1 vs ∧ WRel W g' (acleans A xs).2 ∧ Ev W g A W g' (acleans A xs).2
  | [], vs, A, g, hw, hr => ⟨g, hr, hw, .refl _ _ _⟩
  | x :: xs, [], A, g, hw, hr => by have := hr.1; simp at this
  | x :: xs, v :: vs, A, g, hw, hr => by
    obtain ⟨g1, r1, w1, e1⟩ := aclean_rel hw (hr.2 0 x v rfl rfl)
    have hr' : RelL W g1 (aclean A x).2 xs vs := ⟨by have := hr.1; simpa using this, fun i y u a1 a2 => e1.relV (hr.2 (i + 1) y u (by simpa using a1) (by simpa using a2))⟩
    obtain ⟨g2, r2, w2, e2⟩ := acleans_rel w1 hr'
    refine ⟨g2, ⟨by simp [acleans, r2.1], fun i y u a1 a2 => ?_⟩, w2, e1.trans e2⟩
    simp only [acleans] at a1 ⊢
    cases i with
    | zero => simp at a1 a2; subst a1; subst a2; exact e2.relV r1
    | succ i => simp at a1 a2; exact r2.2 i y u a1 a2

theorem acleanV_rel (hw : WRel W g A) {x : AV} {v : Value} (hr : RelV W g A x v) : ∃ g', RelV W g' (acleanV A x).2 (acleanV A x).1 v ∧ WRel W g' (acleanV A x).2 ∧ Ev W g A W g' (acleanV A x).2 := by
  unfold acleanV
  split
  · rename_i cs
    cases hr with
    | agg _ vs hl r =>
      obtain ⟨g', r', w', e'⟩ := acleans_rel hw (show RelL W g A cs vs from ⟨hl, r⟩)
      exact ⟨g', r'.agg, w', e'⟩
  · exact aclean_rel hw hr

theorem acleanVs_rel : ∀ {xs : List AV} {vs : List Value} {A : AHeap} {g : Gh}, WRel W g A → RelL W g A xs vs →
    ∃ g', RelL W g' (acleanVs A xs).2 (acleanVs A xs).1 vs ∧ WRel W g' (acleanVs A xs).2 ∧ Ev W g A W g' (acleanVs A xs).2
  | [], vs, A, g, hw, hr => ⟨g, hr, hw, .refl _ _ _⟩
  | x :: xs, [], A, g, hw, hr => by have := hr.1; simp at this
  | x :: xs, v :: vs, A, g, hw, hr => by
    obtain ⟨g1, r1, w1, e1⟩ := acleanV_rel hw (hr.2 0 x v rfl rfl)
    have hr' : RelL W g1 (acleanV A x).2 xs vs := ⟨by have := hr.1; simpa using this, fun i y u a1 a2 => e1.relV (hr.2 (i + 1) y u (by simpa using a1) (by simpa using a2))⟩
    obtain ⟨g2, r2, w2, e2⟩ := acleanVs_rel w1 hr'
    refine ⟨g2, ⟨by simp [acleanVs, r2.1], fun i y u a1 a2 => ?_⟩, w2, e1.trans e2⟩
    simp only [acleanVs] at a1 ⊢
    cases i with
    | zero => simp at a1 a2; subst a1; subst a2; exact e2.relV r1
    | succ i => simp at a1 a2; exact r2.2 i y u a1 a2

theorem acleanR_rel (hw : WRel W g A) {x : AV} {v : Value} (hr : RelV W g A x v) : ∃ g', RelV W g' (acleanR A x).2 (acleanR A x).1 v ∧ WRel W g' (acleanR A x).2 ∧ Ev W g A W g' (acleanR A x).2 := by
  unfold acleanR
  split
  · rename_i cs
    cases hr with
    | tuple _ vs hl r =>
      obtain ⟨g', r', w', e'⟩ := acleanVs_rel hw (show RelL W g A cs vs from ⟨hl, r⟩)
      exact ⟨g', .tuple _ _ r'.1 r'.2, w', e'⟩
  · exact acleanV_rel hw hr

end
end Go.Abs
