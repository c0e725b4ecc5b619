/- Expressions, statements, parameters and procedures out of their cells. -/
import Derived.Test.YtfoibmfocmjmdaaRead
import Derived.Test.YtfoibmfocmjmdaaTrees
set_option linter.unusedVariables false
set_option linter.unusedSimpArgs false
set_option linter.all false
set_option linter.deprecated false
namespace Go.Abs

theorem choose_list {α β : Type} {p : α → β → Prop} : ∀ {l : List α}, (∀ x ∈ l, ∃ y, p x y) → ∃ m : List β, m.length = l.length ∧ ∀ (i : Nat) (x : α) (y : β), l[i]? = some x → m[i]? = some y → p x y
  | [], _ => ⟨[], rfl, fun i x y h => by simp at h⟩
  | a :: l, h => by
    obtain ⟨b, hb⟩ := h a (List.mem_cons_self ..)
    obtain ⟨m, h1, h2⟩ := choose_list (l := l) fun x hx => h x (List.mem_cons_of_mem _ hx)
    refine ⟨b :: m, by simp [h1], fun i x y hx hy => ?_⟩
    cases i with
    | zero => simp at hx hy; subst hx; subst hy; exact hb
    | succ i => simp at hx hy; exact h2 i x y hx hy

/-- rows that are all of one kind -/
theorem rows_of {β : Type} {rows : List (List Dat)} {ok : β → Prop} {row : β → List Dat} (h : ∀ r ∈ rows, ∃ y, ok y ∧ r = row y) : ∃ l : List β, rows = l.map row ∧ l.length = rows.length ∧ ∀ x ∈ l, ok x := by
  obtain ⟨m, h1, h2⟩ := choose_list h
  refine ⟨m, ?_, h1, fun x hx => ?_⟩
  · apply List.ext_getElem?
    intro i
    rcases Nat.lt_or_ge i rows.length with hi | hi
    · have e1 := List.getElem?_eq_getElem hi
      have e2 := List.getElem?_eq_getElem (show i < m.length by omega)
      rw [List.getElem?_map, e2, e1, (h2 i _ _ e1 e2).2]
      rfl
    · rw [List.getElem?_eq_none hi, List.getElem?_eq_none (by simp; omega)]
  · obtain ⟨i, hi, rfl⟩ := List.getElem_of_mem hx
    exact (h2 i _ _ (List.getElem?_eq_getElem (show i < rows.length by omega)) (List.getElem?_eq_getElem hi)).1

/-- a struct's fields: types and places -/
def fieldsAre (P : Program) (t : TypeId) (l : List (TypeId × Nat)) : Prop := ∃ fs, P.underlying t = some (.struct fs) ∧ fs.toList.map (fun f => (f.type, f.offset)) = l

structure ExprTy (P : Program) (tE tInt tI tStr tEs : TypeId) : Prop where
  e : fieldsAre P tE [(tInt, 0), (tI, 1), (tStr, 2), (tEs, 3)]
  int : P.underlying tInt = some (.int .i64)
  i : P.underlying tI = some (.int .i64)
  str : P.underlying tStr = some .string
  es : P.underlying tEs = some (.slice tE)
  ce : P.cellsOf tE = 4
  cint : P.cellsOf tInt = 1
  ci : P.cellsOf tI = 1
  cstr : P.cellsOf tStr = 1
  ces : P.cellsOf tEs = 1

section
variable {P : Program} {N n : Nat} {t e : TypeId} {ds : List Dat} {d : Dat}

theorem i64_of_wf {m : Int} (h : (Lit.int .i64 m).wf = true) : i64 m := by
  have h1 : IntKind.i64.min = -9223372036854775808 := by decide
  have h2 : IntKind.i64.max = 9223372036854775807 := by decide
  simp only [Lit.wf, Bool.and_eq_true, decide_eq_true_eq, h1, h2] at h
  exact h

theorem shape_int {k : IntKind} (hu : P.underlying t = some (.int k)) (h : shapeT P N n t ds) : ∃ m, ds = [.int k m] ∧ (Lit.int k m).wf = true := by
  cases n with
  | zero => cases h
  | succ n => simp only [shapeT, hu] at h; exact h
theorem shape_i64 (hu : P.underlying t = some (.int .i64)) (h : shapeT P N n t [d]) : ∃ m, d = .int .i64 m ∧ i64 m := by
  obtain ⟨m, h1, h2⟩ := shape_int hu h
  cases h1
  exact ⟨m, rfl, i64_of_wf h2⟩
theorem shape_str (hu : P.underlying t = some .string) (h : shapeT P N n t [d]) : ∃ s, d = .str s ∧ s.length ≤ N := by
  cases n with
  | zero => cases h
  | succ n =>
    simp only [shapeT, hu] at h
    obtain ⟨s, h1, h2⟩ := h
    cases h1
    exact ⟨s, rfl, h2⟩
theorem shape_slice (hu : P.underlying t = some (.slice e)) (h : shapeT P N n t [d]) : ∃ k rows, n = k + 1 ∧ d = .slice rows ∧ rows.length ≤ N ∧ ∀ r ∈ rows, r.length = P.cellsOf e ∧ shapeT P N k e r := by
  cases n with
  | zero => cases h
  | succ n =>
    simp only [shapeT, hu] at h
    obtain ⟨rows, h1, h2, h3⟩ := h
    cases h1
    exact ⟨n, rows, rfl, rfl, h2, h3⟩
theorem shape_struct {l : List (TypeId × Nat)} (hu : fieldsAre P t l) (h : shapeT P N n t ds) : ∃ k, n = k + 1 ∧ ds.length = P.cellsOf t ∧ ∀ x ∈ l, shapeT P N k x.1 ((ds.drop x.2).take (P.cellsOf x.1)) := by
  obtain ⟨fs, hu, rfl⟩ := hu
  cases n with
  | zero => cases h
  | succ n =>
    simp only [shapeT, hu] at h
    refine ⟨n, rfl, h.1, fun x hx => ?_⟩
    obtain ⟨f, hf, rfl⟩ := List.mem_map.1 hx
    exact h.2 f hf

theorem len4 {α : Type} {l : List α} (h : l.length = 4) : ∃ a b c d, l = [a, b, c, d] := by
  match l, h with
  | [a, b, c, d], _ => exact ⟨a, b, c, d, rfl⟩
theorem len2 {α : Type} {l : List α} (h : l.length = 2) : ∃ a b, l = [a, b] := by
  match l, h with
  | [a, b], _ => exact ⟨a, b, rfl⟩
theorem len3 {α : Type} {l : List α} (h : l.length = 3) : ∃ a b c, l = [a, b, c] := by
  match l, h with
  | [a, b, c], _ => exact ⟨a, b, c, rfl⟩
theorem len13 {α : Type} {l : List α} (h : l.length = 13) : ∃ a b c d e f g h i j k m n, l = [a, b, c, d, e, f, g, h, i, j, k, m, n] := by
  match l, h with
  | [a, b, c, d, e, f, g, h, i, j, k, m, n], _ => exact ⟨a, b, c, d, e, f, g, h, i, j, k, m, n, rfl⟩

theorem readE {tE tInt tI tStr tEs : TypeId} (X : ExprTy P tE tInt tI tStr tEs) (hN : N ≤ 1099511627776) : ∀ (n : Nat) (ds : List Dat), shapeT P N n tE ds → ∃ e : E, E.Ok e ∧ ds = e.row := by
  intro n
  induction n using Nat.strongRecOn with
  | ind n ih =>
    intro ds h
    obtain ⟨k, rfl, hl, hf⟩ := shape_struct X.e h
    rw [X.ce] at hl
    obtain ⟨a, b, c, d, rfl⟩ := len4 hl
    have h0 := hf (tInt, 0) (by simp)
    have h1 := hf (tI, 1) (by simp)
    have h2 := hf (tStr, 2) (by simp)
    have h3 := hf (tEs, 3) (by simp)
    simp only [X.cint, X.ci, X.cstr, X.ces, List.drop_zero, List.drop_succ_cons, List.take_succ_cons, List.take_zero] at h0 h1 h2 h3
    obtain ⟨op, rfl, ho⟩ := shape_i64 X.int h0
    obtain ⟨m, rfl, hm⟩ := shape_i64 X.i h1
    obtain ⟨s, rfl, hs⟩ := shape_str X.str h2
    obtain ⟨j, rows, rfl, rfl, hr, hrows⟩ := shape_slice X.es h3
    obtain ⟨l, rfl, hll, hok⟩ := rows_of (ok := E.Ok) (row := E.row) fun r hr => ih j (by omega) r (hrows r hr).2
    exact ⟨.mk op m s l, .mk op m s l ho hm (by omega) (by omega) hok, by rw [E.row_mk]⟩

structure StmtTy (P : Program) (tS tE tInt tI tStr tEs tSs : TypeId) : Prop extends ExprTy P tE tInt tI tStr tEs where
  s : fieldsAre P tS [(tInt, 0), (tStr, 1), (tInt, 2), (tE, 3), (tE, 7), (tSs, 11), (tSs, 12)]
  ss : P.underlying tSs = some (.slice tS)
  cs : P.cellsOf tS = 13
  css : P.cellsOf tSs = 1

theorem readS {tS tE tInt tI tStr tEs tSs : TypeId} (X : StmtTy P tS tE tInt tI tStr tEs tSs) (hN : N ≤ 1099511627776) : ∀ (n : Nat) (ds : List Dat), shapeT P N n tS ds → ∃ e : Stm, Stm.Ok e ∧ ds = e.row := by
  intro n
  induction n using Nat.strongRecOn with
  | ind n ih =>
    intro ds h
    obtain ⟨k, rfl, hl, hf⟩ := shape_struct X.s h
    rw [X.cs] at hl
    obtain ⟨d0, d1, d2, d3, d4, d5, d6, d7, d8, d9, d10, d11, d12, rfl⟩ := len13 hl
    have h0 := hf (tInt, 0) (by simp)
    have h1 := hf (tStr, 1) (by simp)
    have h2 := hf (tInt, 2) (by simp)
    have h3 := hf (tE, 3) (by simp)
    have h4 := hf (tE, 7) (by simp)
    have h5 := hf (tSs, 11) (by simp)
    have h6 := hf (tSs, 12) (by simp)
    simp only [X.ce, X.cint, X.cstr, X.css, List.drop_zero, List.drop_succ_cons, List.take_succ_cons, List.take_zero] at h0 h1 h2 h3 h4 h5 h6
    obtain ⟨op, rfl, ho⟩ := shape_i64 X.int h0
    obtain ⟨s, rfl, hs⟩ := shape_str X.str h1
    obtain ⟨m, rfl, hm⟩ := shape_i64 X.int h2
    obtain ⟨a, ha, ea⟩ := readE X.toExprTy hN _ _ h3
    obtain ⟨b, hb, eb⟩ := readE X.toExprTy hN _ _ h4
    obtain ⟨j, rows, rfl, rfl, hr, hrows⟩ := shape_slice X.ss h5
    obtain ⟨j', rows', hj, rfl, hr', hrows'⟩ := shape_slice X.ss h6
    obtain ⟨l, rfl, hll, hok⟩ := rows_of (ok := Stm.Ok) (row := Stm.row) fun r hr => ih j (by omega) r (hrows r hr).2
    obtain ⟨l', rfl, hll', hok'⟩ := rows_of (ok := Stm.Ok) (row := Stm.row) fun r hr => ih j' (by omega) r (hrows' r hr).2
    refine ⟨.mk op s m a b l l', .mk op s m a b l l' ho hm (by omega) ha hb (by omega) (by omega) hok hok', ?_⟩
    rw [E.row_eq] at ea eb
    simp only [List.cons.injEq, and_true] at ea eb
    obtain ⟨rfl, rfl, rfl, rfl⟩ := ea
    obtain ⟨rfl, rfl, rfl, rfl⟩ := eb
    rw [Stm.row_eq]

structure ProcTy (P : Program) (tP tPm tPms tS tE tInt tI tStr tEs tSs : TypeId) : Prop extends StmtTy P tS tE tInt tI tStr tEs tSs where
  p : fieldsAre P tP [(tStr, 0), (tPms, 1), (tSs, 2)]
  pm : fieldsAre P tPm [(tStr, 0), (tInt, 1)]
  pms : P.underlying tPms = some (.slice tPm)
  cp : P.cellsOf tP = 3
  cpm : P.cellsOf tPm = 2
  cpms : P.cellsOf tPms = 1

theorem readPm {tPm tInt tStr : TypeId} (pm : fieldsAre P tPm [(tStr, 0), (tInt, 1)]) (int : P.underlying tInt = some (.int .i64)) (str : P.underlying tStr = some .string) (cpm : P.cellsOf tPm = 2) (cint : P.cellsOf tInt = 1) (cstr : P.cellsOf tStr = 1)
    (hN : N ≤ 1099511627776) (n : Nat) (ds : List Dat) (h : shapeT P N n tPm ds) : ∃ p : Pm, p.Ok ∧ ds = p.row := by
  obtain ⟨k, rfl, hl, hf⟩ := shape_struct pm h
  rw [cpm] at hl
  obtain ⟨d0, d1, rfl⟩ := len2 hl
  have h0 := hf (tStr, 0) (by simp)
  have h1 := hf (tInt, 1) (by simp)
  simp only [cint, cstr, List.drop_zero, List.drop_succ_cons, List.take_succ_cons, List.take_zero] at h0 h1
  obtain ⟨s, rfl, hs⟩ := shape_str str h0
  obtain ⟨m, rfl, hm⟩ := shape_i64 int h1
  exact ⟨⟨s, m⟩, ⟨by show s.length ≤ _; omega, hm⟩, rfl⟩

theorem readP {tP tPm tPms tS tE tInt tI tStr tEs tSs : TypeId} (X : ProcTy P tP tPm tPms tS tE tInt tI tStr tEs tSs) (hN : N ≤ 1099511627776) (n : Nat) (ds : List Dat) (h : shapeT P N n tP ds) : ∃ p : Pr, p.Ok ∧ ds = p.row := by
  obtain ⟨k, rfl, hl, hf⟩ := shape_struct X.p h
  rw [X.cp] at hl
  obtain ⟨d0, d1, d2, rfl⟩ := len3 hl
  have h0 := hf (tStr, 0) (by simp)
  have h1 := hf (tPms, 1) (by simp)
  have h2 := hf (tSs, 2) (by simp)
  simp only [X.cstr, X.cpms, X.css, List.drop_zero, List.drop_succ_cons, List.take_succ_cons, List.take_zero] at h0 h1 h2
  obtain ⟨s, rfl, hs⟩ := shape_str X.str h0
  obtain ⟨j, rows, rfl, rfl, hr, hrows⟩ := shape_slice X.pms h1
  obtain ⟨j', rows', hj, rfl, hr', hrows'⟩ := shape_slice X.ss h2
  obtain ⟨l, rfl, hll, hok⟩ := rows_of (ok := Pm.Ok) (row := Pm.row) fun r hr => readPm X.pm X.int X.str X.cpm X.cint X.cstr hN j r (hrows r hr).2
  obtain ⟨l', rfl, hll', hok'⟩ := rows_of (ok := Stm.Ok) (row := Stm.row) fun r hr => readS X.toStmtTy hN j' r (hrows' r hr).2
  exact ⟨⟨s, l, l'⟩, ⟨by show s.length ≤ _; omega, by show l.length ≤ _; omega, hok, by show l'.length ≤ _; omega, hok'⟩, rfl⟩

/-- from cells to the value that holds them -/
theorem rel_agg {W : World} {A : AHeap} {ds : List Dat} {cs : Array Value} (h : ReadDs W (fun b _ => b < W.heap.size) ds cs.toList) : RelV W (gh0 W) A (.agg (ds.map .d)) (.agg cs) := by
  have := RelV.agg (W := W) (g := gh0 W) (A := A) (ds.map .d) cs.toList (by simp [h.1]) (fun i x v h1 h2 => by
    rw [List.getElem?_map, Option.map_eq_some_iff] at h1
    obtain ⟨d, h1, rfl⟩ := h1
    exact .d d v (h.2 i d v h1 h2))
  simpa using this
theorem rel_one {W : World} {A : AHeap} {d : Dat} {v : Value} (h : ReadDs W (fun b _ => b < W.heap.size) [d] [v]) : RelV W (gh0 W) A (.d d) v := .d d v (h.2 0 d v rfl rfl)
end
end Go.Abs
