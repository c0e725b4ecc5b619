/- From the reading of an argument (a tree over the heap) to plain data. -/
import Derived.Test.YtfoibmfocmjmdaaAbsTop
import Derived.Deep.Slices
import Derived.WideKeyArgs
set_option linter.unusedVariables false
set_option linter.unusedSimpArgs false
set_option linter.all false
set_option linter.deprecated false
namespace Go.Abs
open Go.ChangeShapes Go.WideShapes

/-- fields that lie in a row, one behind the other -/
def rowB (P : Program) : Nat → List Field → Option Nat
  | off, [] => some off
  | off, f :: fs => if f.offset = off then rowB P (off + P.cellsOf f.type) fs else none

/-- types whose values are plain data: bools, integers, strings, and slices and structs of such -/
def planT (P : Program) (T : List TypeId) : Bool := T.all fun t => match P.underlying t with
  | some .bool => true
  | some (.int _) => true
  | some .string => true
  | some (.slice e) => T.contains e && decide (0 < P.cellsOf e)
  | some (.struct fs) => (fs.toList.all fun f => T.contains f.type) && (rowB P 0 fs.toList == some (P.cellsOf t))
  | _ => false

/-- how a type's cells look, with no string and slice longer than N -/
def shapeT (P : Program) (N : Nat) : Nat → TypeId → List Dat → Prop
  | 0, _, _ => False
  | n + 1, t, ds => match P.underlying t with
    | some .bool => ∃ b, ds = [.bool b]
    | some (.int k) => ∃ m, ds = [.int k m] ∧ (Lit.int k m).wf = true
    | some .string => ∃ s, ds = [.str s] ∧ s.length ≤ N
    | some (.slice e) => ∃ rows, ds = [.slice rows] ∧ rows.length ≤ N ∧ ∀ r ∈ rows, r.length = P.cellsOf e ∧ shapeT P N n e r
    | some (.struct fs) => ds.length = P.cellsOf t ∧ ∀ f ∈ fs.toList, shapeT P N n f.type ((ds.drop f.offset).take (P.cellsOf f.type))
    | _ => False

/-- cells as data -/
def ReadDs (W : World) (S : Nat → Nat → Prop) (ds : List Dat) (cs : List Value) : Prop :=
  ds.length = cs.length ∧ ∀ (i : Nat) (c : Dat) (v : Value), ds[i]? = some c → cs[i]? = some v → RelD W S c v

theorem ReadDs.one {W : World} {S : Nat → Nat → Prop} {d : Dat} {v : Value} (h : RelD W S d v) : ReadDs W S [d] [v] :=
  ⟨rfl, fun i c u h1 h2 => by
    cases i with
    | zero => simp at h1 h2; subst h1; subst h2; exact h
    | succ i => simp at h1⟩
theorem ReadDs.append {W : World} {S : Nat → Nat → Prop} {ds es : List Dat} {cs us : List Value} (h : ReadDs W S ds cs) (h' : ReadDs W S es us) : ReadDs W S (ds ++ es) (cs ++ us) :=
  ⟨by simp [h.1, h'.1], fun i c v h1 h2 => by
    rcases Nat.lt_or_ge i ds.length with hi | hi
    · rw [List.getElem?_append_left hi] at h1
      rw [List.getElem?_append_left (by rw [← h.1]; exact hi)] at h2
      exact h.2 i c v h1 h2
    · rw [List.getElem?_append_right hi] at h1
      rw [List.getElem?_append_right (by rw [← h.1]; exact hi), ← h.1] at h2
      exact h'.2 _ c v h1 h2⟩

theorem rowB_le {P : Program} : ∀ {fs : List Field} {off tot : Nat}, rowB P off fs = some tot → off ≤ tot
  | [], off, tot, h => by simp [rowB] at h; omega
  | f :: fs, off, tot, h => by
    simp only [rowB] at h
    split at h
    · have := rowB_le h; omega
    · cases h
theorem rowB_off {P : Program} : ∀ {fs : List Field} {off tot : Nat}, rowB P off fs = some tot → ∀ f ∈ fs, off ≤ f.offset
  | [], _, _, _, f, hf => by cases hf
  | g :: fs, off, tot, h, f, hf => by
    simp only [rowB] at h
    split at h
    · rename_i he
      rcases List.mem_cons.1 hf with rfl | hf
      · omega
      · have := rowB_off h f hf; omega
    · cases h

/-- how big a reading is -/
structure Bulk {H : Type} (B : DataW H → Nat) : Prop where
  str : ∀ s, s.length ≤ B (.lit (.string s))
  agg : ∀ l, ∀ d ∈ l, B d ≤ B (.agg l)
  len : ∀ l sp, l.length ≤ B (.slice l sp)
  elem : ∀ l sp, ∀ d ∈ l, B d ≤ B (.slice l sp)

theorem mapM_some {α β : Type} {f : α → Option β} : ∀ {l : List α} {r : List β}, l.mapM f = some r → r.length = l.length ∧ ∀ (i : Nat) (x : α) (y : β), l[i]? = some x → r[i]? = some y → f x = some y
  | [], r, h => by
    simp only [List.mapM_nil, Option.pure_def, Option.some.injEq] at h
    subst h
    exact ⟨rfl, fun i x y h => by simp at h⟩
  | a :: l, r, h => by
    rw [List.mapM_cons] at h
    simp only [Option.bind_eq_bind, Option.bind_eq_some_iff, Option.pure_def, Option.some.injEq] at h
    obtain ⟨b, hb, rs, hr, rfl⟩ := h
    obtain ⟨h1, h2⟩ := mapM_some hr
    refine ⟨by simp [h1], fun i x y hx hy => ?_⟩
    cases i with
    | zero => simp at hx hy; subst hx; subst hy; exact hb
    | succ i => simp at hx hy; exact h2 i x y hx hy

theorem cells_spot {W : World} {base : Nat} {a : Addr} {n : Nat} {cs : List Value} (hn : 0 < n) (h : W.cells? base a n = some cs) :
    a.spot = none ∧ cs.length = n ∧ ∀ (j : Nat) (v : Value), cs[j]? = some v → W.cell? ⟨a.block, a.off + j, none⟩ = some v := by
  unfold World.cells? at h
  split at h
  · obtain ⟨h1, h2⟩ := mapM_some h
    rw [List.length_range] at h1
    have hs : a.spot = none := by
      have h0 := h2 0 0 (cs[0]'(by omega)) (by simp [hn]) (List.getElem?_eq_getElem (by omega))
      simp only [Addr.add, if_true] at h0
      unfold World.cell? at h0
      split at h0
      · split at h0
        · cases h0
        · rename_i hx; simpa using hx
      · cases h0
    refine ⟨hs, h1, fun j v hj => ?_⟩
    have := h2 j j v (List.getElem?_range (by have := lt_of_get hj; omega)) hj
    rw [← this]
    unfold Addr.add
    split
    · rename_i h0; subst h0; cases a; simp at hs; subst hs; rfl
    · rfl
  · cases h

section
variable {H : Type} {enc : TypeId × Value → H} {P : Program} {W : World} {base N : Nat} {sp : Nat → Bool} {held : Bool} {T : List TypeId} {B : DataW H → Nat}

theorem cell_lt {a : Addr} {v : Value} (h : W.cell? a = some v) : a.block < W.heap.size := by
  unfold World.cell? at h
  split at h
  · rename_i hx; exact lt_heap hx
  · cases h

theorem read (hp : planT P T = true) (hB : Bulk B) : ∀ (n : Nat) (t : TypeId) (cs : List Value) (x : DataW H × List MemPlace), T.contains t = true → DataW.trod enc P W base sp held n t cs = some x → B x.1 ≤ N →
    ∃ ds, ReadDs W (fun b _ => b < W.heap.size) ds cs ∧ shapeT P N n t ds := by
  intro n
  induction n with
  | zero => intro t cs x _ h; unfold DataW.trod at h; cases h
  | succ n ih =>
    intro t cs x ht h hN
    have hk := List.all_eq_true.1 hp t (by simpa using ht)
    cases hu : P.underlying t with
    | none => rw [hu] at hk; cases hk
    | some u =>
      rw [hu] at hk
      cases u with
      | bool =>
        obtain ⟨b, rfl, _⟩ := DataW.trod_bool hu h
        exact ⟨[.bool b], .one (.bool b), by simp only [shapeT, hu]; exact ⟨b, rfl⟩⟩
      | int k =>
        obtain ⟨m, rfl, _, hw⟩ := DataW.trod_int hu h
        exact ⟨[.int k m], .one (.int k m), by simp only [shapeT, hu]; exact ⟨m, rfl, hw⟩⟩
      | string =>
        obtain ⟨s, rfl, rfl, _⟩ := DataW.trod_string hu h
        exact ⟨[.str s.data.toList], .one (.str s), by simp only [shapeT, hu]; exact ⟨_, rfl, Nat.le_trans (hB.str _) hN⟩⟩
      | slice e =>
        simp only [Bool.and_eq_true, decide_eq_true_eq] at hk
        rcases DataW.trod_slice hu h with ⟨rfl, _⟩ | ⟨a, len, cap, elems, rest, n', hn', rfl, rfl, _, hl, hm, hlen, hel, _⟩
        · exact ⟨[.slice []], .one (.empty none 0), by simp only [shapeT, hu]; exact ⟨[], rfl, Nat.zero_le _, fun r hr => by cases hr⟩⟩
        · cases hn'
          have hone : ∀ i, i < len → ∃ r : List Value × List Dat, W.cells? base (a.add (i * P.cellsOf e)) (P.cellsOf e) = some r.1 ∧ ReadDs W (fun b _ => b < W.heap.size) r.2 r.1 ∧ shapeT P N n e r.2 := by
            intro i hi
            have he := hel i hi
            rw [List.getElem?_eq_getElem (by omega)] at he
            obtain ⟨us, h1, h2⟩ := Option.bind_eq_some_iff.1 he
            obtain ⟨ds, h3, h4⟩ := ih e us _ hk.1 h2 (Nat.le_trans (hB.elem _ _ _ (List.mem_map.2 ⟨_, List.getElem_mem (by omega), rfl⟩)) hN)
            exact ⟨(us, ds), h1, h3, h4⟩
          obtain ⟨F, hF⟩ := Go.Deep.choose_lt (p := fun i (r : List Value × List Dat) => W.cells? base (a.add (i * P.cellsOf e)) (P.cellsOf e) = some r.1 ∧ ReadDs W (fun b _ => b < W.heap.size) r.2 r.1 ∧ shapeT P N n e r.2) hone
          have hlN : len ≤ N := by
            have := Nat.le_trans (hB.len _ _) hN
            simp at this
            omega
          cases len with
          | zero => exact ⟨[.slice []], .one (.empty _ _), by simp only [shapeT, hu]; exact ⟨[], rfl, Nat.zero_le _, fun r hr => by cases hr⟩⟩
          | succ m =>
            have hsp : a.spot = none := by
              have := (cells_spot hk.2 (hF 0 (by omega)).1).1
              simpa [Addr.add] using this
            have hcell : ∀ i, i < m + 1 → ∀ j v, (F i).1[j]? = some v → W.cell? ⟨a.block, a.off + i * P.cellsOf e + j, none⟩ = some v := by
              intro i hi j v hj
              have := (cells_spot hk.2 (hF i hi).1).2.2 j v hj
              unfold Addr.add at this
              split at this
              · rename_i h0; rw [h0]; exact this
              · exact this
            have hlenF : ∀ i, i < m + 1 → (F i).2.length = P.cellsOf e := fun i hi => by
              rw [(hF i hi).2.1.1]; exact (cells_spot hk.2 (hF i hi).1).2.1
            have hrow : ∀ (i : Nat) (row : List Dat), ((List.range (m + 1)).map fun i => (F i).2)[i]? = some row → i < m + 1 ∧ row = (F i).2 := by
              intro i row hr
              simp only [List.getElem?_map, Option.map_eq_some_iff] at hr
              obtain ⟨k, hk1, hk2⟩ := hr
              obtain ⟨hk3, hk4⟩ := List.getElem?_eq_some_iff.1 hk1
              simp at hk3 hk4
              subst hk4
              exact ⟨hk3, hk2.symm⟩
            refine ⟨[.slice ((List.range (m + 1)).map fun i => (F i).2)], ?_, ?_⟩
            · refine .one ?_
              have := RelD.slice (W := W) (S := fun b _ => b < W.heap.size) ((List.range (m + 1)).map fun i => (F i).2) a.block a.off cap (P.cellsOf e) (fun i j => ((F i).1[j]?).getD .nilFunc)
                (by simpa using hl) (fun i row hr => by obtain ⟨h1, rfl⟩ := hrow i row hr; exact hlenF i h1)
                (fun i j row c hr hc => by
                  obtain ⟨h1, rfl⟩ := hrow i row hr
                  have hj : j < (F i).1.length := by rw [← (hF i h1).2.1.1]; exact lt_of_get hc
                  have hv : (F i).1[j]? = some ((F i).1[j]'hj) := List.getElem?_eq_getElem hj
                  have hx := hcell i h1 j _ hv
                  refine ⟨cell_lt (a := ⟨a.block, a.off + i * P.cellsOf e + j, none⟩) hx, ?_⟩
                  rw [hx, hv]
                  rfl)
                (fun i j row c hr hc => by
                  obtain ⟨h1, rfl⟩ := hrow i row hr
                  have hj : j < (F i).1.length := by rw [← (hF i h1).2.1.1]; exact lt_of_get hc
                  have hv : (F i).1[j]? = some ((F i).1[j]'hj) := List.getElem?_eq_getElem hj
                  have := (hF i h1).2.1.2 j c _ hc hv
                  show RelD W _ c (((F i).1[j]?).getD .nilFunc)
                  rw [hv]
                  exact this)
              have ha : a = ⟨a.block, a.off, none⟩ := by cases a; simp at hsp; subst hsp; rfl
              rw [ha]
              simpa using this
            · simp only [shapeT, hu]
              refine ⟨_, rfl, by simpa using hlN, fun r hr => ?_⟩
              obtain ⟨i, hi, rfl⟩ := List.mem_map.1 hr
              have hi' : i < m + 1 := by simpa using hi
              exact ⟨hlenF i hi', (hF i hi').2.2⟩
      | struct fs =>
        simp only [Bool.and_eq_true, beq_iff_eq] at hk
        obtain ⟨xs, n', hn', rfl, hlen, hxs, hf⟩ := DataW.trod_struct hu h
        cases hn'
        have key : ∀ (l : List Field) (k off : Nat), (∀ (i : Nat) (f : Field), l[i]? = some f → fs[k + i]? = some f) → rowB P off l = some (P.cellsOf t) →
            ∃ ds, ReadDs W (fun b _ => b < W.heap.size) ds (cs.drop off) ∧ ∀ f ∈ l, shapeT P N n f.type ((ds.drop (f.offset - off)).take (P.cellsOf f.type)) := by
          intro l
          induction l with
          | nil =>
            intro k off _ hr
            simp only [rowB, Option.some.injEq] at hr
            refine ⟨[], ⟨?_, fun i c v h => by simp at h⟩, fun f hf => by cases hf⟩
            simp; omega
          | cons f l ihl =>
            intro k off hi hr
            have hr' := hr
            simp only [rowB] at hr
            split at hr
            · rename_i hoff
              have hle := rowB_le hr
              obtain ⟨ds2, h3, h4⟩ := ihl (k + 1) (off + P.cellsOf f.type) (fun i g hg => by have := hi (i + 1) g (by simpa using hg); rw [show k + 1 + i = k + (i + 1) by omega]; exact this) hr
              have hfk := hi 0 f rfl
              simp only [Nat.add_zero] at hfk
              have hx := hf k f hfk
              have hks : k < xs.length := by
                rw [hxs]
                rcases Nat.lt_or_ge k fs.size with h' | h'
                · exact h'
                · rw [Array.getElem?_eq_none h'] at hfk; cases hfk
              rw [List.getElem?_eq_getElem hks] at hx
              have hfm : f ∈ fs.toList := by
                have : fs.toList[k]? = some f := by simpa using hfk
                exact List.mem_of_getElem? this
              obtain ⟨ds1, h1, h2⟩ := ih f.type _ _ (List.all_eq_true.1 hk.1 f hfm) hx (Nat.le_trans (hB.agg _ _ (List.mem_map.2 ⟨_, List.getElem_mem hks, rfl⟩)) hN)
              have hl1 : ds1.length = P.cellsOf f.type := by
                rw [h1.1, List.length_take, List.length_drop]; omega
              refine ⟨ds1 ++ ds2, ?_, ?_⟩
              · have := h1.append h3
                rw [hoff] at this
                have he : (cs.drop off).take (P.cellsOf f.type) ++ cs.drop (off + P.cellsOf f.type) = cs.drop off := by
                  rw [← List.drop_drop, List.take_append_drop]
                rwa [he] at this
              · intro g hg
                rcases List.mem_cons.1 hg with rfl | hg
                · rw [hoff, Nat.sub_self, List.drop_zero, ← hl1, List.take_left']
                  · exact h2
                  · rfl
                · have hgo := rowB_off hr g hg
                  have := h4 g hg
                  rw [List.drop_append, List.drop_eq_nil_of_le (by omega), List.nil_append, hl1, show g.offset - off - P.cellsOf f.type = g.offset - (off + P.cellsOf f.type) by omega]
                  exact this
            · cases hr
        obtain ⟨ds, h1, h2⟩ := key fs.toList 0 0 (fun i f hi => by rw [Nat.zero_add]; simpa using hi) hk.2
        refine ⟨ds, by simpa using h1, ?_⟩
        simp only [shapeT, hu]
        refine ⟨?_, fun f hf => by simpa using h2 f hf⟩
        rw [h1.1, List.drop_zero, hlen]
      | _ => cases hk
end
end Go.Abs
