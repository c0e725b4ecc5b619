/- How several arguments of the laws are read: procedures, names, expressions, variables, values. -/
import Derived.Test.YthjmecciefihmaaSeatC
import Derived.Test.YthjmecciefihmaaGenD
import Derived.Test.YthjmecciefihmaaSeatA
set_option linter.unusedVariables false
set_option linter.unusedSimpArgs false
set_option linter.all false
set_option linter.deprecated false
set_option linter.all false
namespace Go.Proofs.Ythjmecciefihmaa
open Go.ChangeShapes Go.WideShapes Go.ChangeAt Go.RowKit
open Go.Abs
structure Vl where
  kind : Int
  n : Int
  s : Bytes
def Vl.row (x : Vl) : List Dat := [.int .i64 x.kind, .int .i64 x.n, .str x.s]
structure Vl.Ok (x : Vl) : Prop where
  kind : i64 x.kind
  n : i64 x.n
  s : x.s.length ≤ 1099511627776
def planV : List TypeId := [35, 48, 25, 59, 33, 24, 3, 2, 9, 22, 41, 43]
theorem planVok : planT Try.prog planV = true := by kernel_rfl
set_option maxRecDepth 100000 in
/-- an expression that comes in -/
theorem readExpr {H : Type} {enc : TypeId × Value → H} {W : World} {base : Nat} {v : Value} {d : DataW H} {ps : List MemPlace} (hw : Value.okWide Try.prog W .any base 24 v)
    (h : DataW.Trod enc Try.prog W 0 (fun _ => true) true 24 v d ps) (hb : Rows.uptoBulk d ≤ 1048576) : ∃ p : E, p.Ok ∧ ∀ A, RelV W (gh0 W) A (.agg (p.row.map .d)) v := by
  unfold Value.okWide at hw
  rw [Try.underlying24] at hw
  obtain ⟨cs, rfl, -, -⟩ := hw
  obtain ⟨n, hn⟩ := h
  obtain ⟨es, hes, hsh⟩ := read (N := 1048576) plan bulk n 24 cs.toList _ (by decide) hn hb
  obtain ⟨e, hok, rfl⟩ := readE exprTy (by decide) n es hsh
  exact ⟨e, hok, fun A => rel_agg hes⟩
theorem okWide_slice {W : World} {base : Nat} {t e : TypeId} {v : Value} (hu : Try.prog.underlying t = some (.slice e)) (hv : Value.okWide Try.prog W .any base t v) : ∀ cs, v ≠ .agg cs := by
  intro cs he
  subst he
  unfold Value.okWide at hv
  rw [hu] at hv
  change Cell.okWide Try.prog W .any base t (Value.agg cs) at hv
  simp only [Cell.okWide, Cell.ok, hu] at hv
theorem okWide_str {W : World} {base : Nat} {t : TypeId} {v : Value} (hu : Try.prog.underlying t = some .string) (hv : Value.okWide Try.prog W .any base t v) : ∀ cs, v ≠ .agg cs := by
  intro cs he
  subst he
  unfold Value.okWide at hv
  rw [hu] at hv
  change Cell.okWide Try.prog W .any base t (Value.agg cs) at hv
  simp only [Cell.okWide, Cell.ok, hu] at hv
theorem cells_one {v : Value} (h : ∀ cs, v ≠ .agg cs) : v.cells.toList = [v] := by
  cases v with
  | agg cs => exact absurd rfl (h cs)
  | _ => rfl
set_option maxRecDepth 100000 in
/-- a slice that comes in -/
theorem readSlice {H : Type} {enc : TypeId × Value → H} {W : World} {base : Nat} {t e : TypeId} {v : Value} {d : DataW H} {ps : List MemPlace} (hu : Try.prog.underlying t = some (.slice e)) (ht : planV.contains t = true) (hw : Value.okWide Try.prog W .any base t v)
    (h : DataW.Trod enc Try.prog W 0 (fun _ => true) true t v d ps) (hb : Rows.uptoBulk d ≤ 1048576) : ∃ k rows, rows.length ≤ 1048576 ∧ (∀ r ∈ rows, shapeT Try.prog 1048576 k e r) ∧ ∀ A, RelV W (gh0 W) A (.d (.slice rows)) v := by
  obtain ⟨n, hn⟩ := h
  have hc := cells_one (okWide_slice hu hw)
  obtain ⟨es, hes, hsh⟩ := read (N := 1048576) planVok bulk n t v.cells.toList _ ht hn hb
  rw [hc] at hes
  obtain ⟨x, rfl⟩ : ∃ x, es = [x] := by
    have := hes.1
    match es, this with
    | [x], _ => exact ⟨x, rfl⟩
    | [], h => simp at h
    | _ :: _ :: _, h => simp at h
  obtain ⟨k, rows, rfl, rfl, hr, hrows⟩ := shape_slice hu hsh
  exact ⟨k, rows, hr, fun r hr => (hrows r hr).2, fun A => rel_one hes⟩
theorem readVl (n : Nat) (ds : List Dat) (h : shapeT Try.prog 1048576 n 43 ds) : ∃ p : Vl, p.Ok ∧ ds = p.row := by
  obtain ⟨k, rfl, hl, hf⟩ := shape_struct (l := [(3, 0), (2, 1), (9, 2)]) ⟨_, Try.underlying43, rfl⟩ h
  have c3 : Try.prog.cellsOf 43 = 3 := by kernel_rfl
  rw [c3] at hl
  obtain ⟨d0, d1, d2, rfl⟩ := len3 hl
  have h0 := hf (3, 0) (by simp)
  have h1 := hf (2, 1) (by simp)
  have h2 := hf (9, 2) (by simp)
  simp only [exprTy.cint, exprTy.ci, exprTy.cstr, List.drop_zero, List.drop_succ_cons, List.take_succ_cons, List.take_zero] at h0 h1 h2
  obtain ⟨a, rfl, ha⟩ := shape_i64 exprTy.int h0
  obtain ⟨b, rfl, hb⟩ := shape_i64 exprTy.i h1
  obtain ⟨s, rfl, hs⟩ := shape_str exprTy.str h2
  exact ⟨⟨a, b, s⟩, ⟨ha, hb, by show s.length ≤ _; omega⟩, rfl⟩
def Good (t : TypeId) (x : AV) : Prop := (t = 35 → ∃ p : Pr, p.Ok ∧ x = .agg (p.row.map .d)) ∧ (t = 9 → ∃ s : Bytes, s.length ≤ 1048576 ∧ x = .d (.str s)) ∧ (t = 24 → ∃ p : E, p.Ok ∧ x = .agg (p.row.map .d)) ∧
  (t = 25 → ∃ l : List Pm, (l.length ≤ 1048576 ∧ ∀ y ∈ l, y.Ok) ∧ x = .d (.slice (l.map Pm.row))) ∧ (t = 41 → ∃ l : List Vl, (l.length ≤ 1048576 ∧ ∀ y ∈ l, y.Ok) ∧ x = .d (.slice (l.map Vl.row)))
theorem goodProc {x : AV} (h : Good 35 x) : ∃ p : Pr, p.Ok ∧ x = .agg (p.row.map .d) := h.1 rfl
theorem goodStr {x : AV} (h : Good 9 x) : ∃ s : Bytes, s.length ≤ 1048576 ∧ x = .d (.str s) := h.2.1 rfl
theorem av_row (p : E) : AV.agg (p.row.map .d) = E.av p := by rw [E.row_eq]; rfl
theorem goodExpr {x : AV} (h : Good 24 x) : ∃ p : E, p.Ok ∧ x = E.av p := by
  obtain ⟨p, hp, rfl⟩ := h.2.2.1 rfl
  exact ⟨p, hp, av_row p⟩
theorem goodParams {x : AV} (h : Good 25 x) : ∃ l : List Pm, (l.length ≤ 1048576 ∧ ∀ y ∈ l, y.Ok) ∧ x = .d (.slice (l.map Pm.row)) := h.2.2.2.1 rfl
theorem goodValues {x : AV} (h : Good 41 x) : ∃ l : List Vl, (l.length ≤ 1048576 ∧ ∀ y ∈ l, y.Ok) ∧ x = .d (.slice (l.map Vl.row)) := h.2.2.2.2 rfl
def goodT : List TypeId := [35, 9, 24, 25, 41]
set_option maxRecDepth 100000 in
theorem good_rd {H : Type} {enc : TypeId × Value → H} {W : World} {base : Nat} : ∀ t v (d : DataW H) ps, t ∈ goodT → Value.okWide Try.prog W .any base t v → DataW.Trod enc Try.prog W 0 (fun _ => true) true t v d ps → Rows.uptoBulk d ≤ 1048576 →
    ∃ x, Good t x ∧ ∀ A, RelV W (gh0 W) A x v := by
  intro t v d ps ht hv h hb
  simp only [goodT, List.mem_cons, List.mem_nil_iff, or_false] at ht
  rcases ht with rfl | rfl | rfl | rfl | rfl
  · obtain ⟨p, hp, hr⟩ := readProc hv h hb
    exact ⟨_, ⟨fun _ => ⟨p, hp, rfl⟩, fun h => absurd h (by decide), fun h => absurd h (by decide), fun h => absurd h (by decide), fun h => absurd h (by decide)⟩, hr⟩
  · obtain ⟨s, hs, hr⟩ := readStr h hb (okWide_str Try.underlying9 hv)
    exact ⟨_, ⟨fun h => absurd h (by decide), fun _ => ⟨s, hs, rfl⟩, fun h => absurd h (by decide), fun h => absurd h (by decide), fun h => absurd h (by decide)⟩, hr⟩
  · obtain ⟨p, hp, hr⟩ := readExpr hv h hb
    exact ⟨_, ⟨fun h => absurd h (by decide), fun h => absurd h (by decide), fun _ => ⟨p, hp, rfl⟩, fun h => absurd h (by decide), fun h => absurd h (by decide)⟩, hr⟩
  · obtain ⟨k, rows, hl, hs, hr⟩ := readSlice Try.underlying25 (by decide) hv h hb
    obtain ⟨l, rfl, hll, hok⟩ := rows_of (ok := Pm.Ok) (row := Pm.row) fun r hr => readPm (P := Try.prog) (N := 1048576) procTy.pm procTy.int procTy.str procTy.cpm procTy.cint procTy.cstr (by decide) k r (hs r hr)
    exact ⟨_, ⟨fun h => absurd h (by decide), fun h => absurd h (by decide), fun h => absurd h (by decide), fun _ => ⟨l, ⟨by omega, hok⟩, rfl⟩, fun h => absurd h (by decide)⟩, hr⟩
  · obtain ⟨k, rows, hl, hs, hr⟩ := readSlice Try.underlying41 (by decide) hv h hb
    obtain ⟨l, rfl, hll, hok⟩ := rows_of (ok := Vl.Ok) (row := Vl.row) fun r hr => readVl k r (hs r hr)
    exact ⟨_, ⟨fun h => absurd h (by decide), fun h => absurd h (by decide), fun h => absurd h (by decide), fun h => absurd h (by decide), fun _ => ⟨l, ⟨by omega, hok⟩, rfl⟩⟩, hr⟩
set_option maxRecDepth 100000 in
theorem lawG {H : Type} {enc : TypeId × Value → H} {f : FuncId} {fn : Func} {s : ChangeSpec} {W : World} {base : Nat} {args : Array Value} {ds gs : List (DataW H)} {before : List MemPlace}
    (hpar : fn.params.toList.all (goodT.contains ·) = true) (hres : fn.resultTypes = #[4]) (hvars : s.vars = []) (hfn : ∀ ds : List (DataW H), ds.length = fn.params.toList.length → s.fn H ds = { results := [.lit (.bool true)], args := ds })
    (hval : ∀ (j : Nat) t v, fn.params[j]? = some t → args[j]? = some v → Value.okWide Try.prog W .any base t v)
    (hW : DataW.Whole enc Try.prog fn.params.toList s.vars false W args.toList ds gs before) (hk : Rows.uptoSmall H (ds ++ gs) = true)
    (law : ∀ xs, goods Good fn.params.toList xs → acl C f xs A00 = some (.d (.bool true), A00)) :
    Calls Try.prog f args W fun e W' => ∃ v, e = .returned v ∧ s.post enc Try.prog fn false true false false W args v W' := by
  have hT : ∀ t ∈ fn.params.toList, t ∈ goodT := fun t ht => by
    have := List.all_eq_true.1 hpar t ht
    exact List.contains_iff_mem.1 this
  have hsz : Rows.uptoBulkAll (ds ++ gs) ≤ 1048576 := by simpa [Rows.uptoSmall] using hk
  exact lawN (c := C) rfl mixed extOk laid (fun t ht => by
      have : goodT.all (fun t => Try.prog.readableRec t && decide (t < Try.prog.types.size)) = true := by kernel_rfl
      have := List.all_eq_true.1 this t (hT t ht)
      simpa using this) hT hres Try.underlying4 (by kernel_rfl) hvars hfn hval hW
    (fun d hd => Nat.le_trans (bulk_mem (List.mem_append_left _ hd)) hsz) good_rd law
end Go.Proofs.Ythjmecciefihmaa
