/- How the arguments of the laws are read: each by its type, with its weight. -/
import Derived.Test.YtfflfaedghfmdaaDoorRows
import Derived.Test.YtfflfaedghfmdaaDoorChecked
import Derived.JoinedCond
import Derived.Deep.DeepHandedRow
import Derived.Lib.LaidTab
import Derived.Stop.LaidErr
import Derived.MakeChecks
import Derived.Test.YtfflfaedghfmdaaDoorGenD
import Derived.Test.YtfflfaedghfmdaaDoorSeatA
import Derived.Test.YtfflfaedghfmdaaDoorSeatB
set_option linter.unusedVariables false
set_option linter.unusedSimpArgs false
set_option linter.all false
set_option linter.deprecated false
set_option linter.all false
namespace Go.Proofs.YtfflfaedghfmdaaDoor
open Go.ChangeShapes Go.WideShapes Go.ChangeAt Go.RowKit
open Go.Abs
theorem bulk_mem {H : Type} : ∀ {l : List (DataW H)} {d : DataW H}, d ∈ l → Rows.uptoBulk d ≤ Rows.uptoBulkAll l
  | [], _, h => by cases h
  | x :: l, d, h => by
    unfold Rows.uptoBulkAll
    rcases List.mem_cons.1 h with rfl | h
    · omega
    · have := bulk_mem h; omega
theorem bulk_pos {H : Type} (d : DataW H) : 1 ≤ Rows.uptoBulk d := by
  unfold Rows.uptoBulk
  split <;> omega
theorem bulk_len {H : Type} : ∀ (l : List (DataW H)), l.length ≤ Rows.uptoBulkAll l
  | [] => Nat.zero_le _
  | x :: l => by
    have h1 := bulk_pos x
    have h2 := bulk_len l
    unfold Rows.uptoBulkAll
    simp
    omega
theorem bulk_sum {H : Type} : ∀ (l : List (DataW H)), sumB Rows.uptoBulk l = Rows.uptoBulkAll l
  | [] => by rw [sumB, Rows.uptoBulkAll]
  | x :: l => by rw [sumB, Rows.uptoBulkAll, bulk_sum l]
theorem bulkW {H : Type} : BulkW (Rows.uptoBulk (H := H)) where
  str s := by unfold Rows.uptoBulk; simp
  agg l d h := by
    have := bulk_mem h
    have e : Rows.uptoBulk (.agg l) = Rows.uptoBulkAll l + 1 := by rw [Rows.uptoBulk]
    omega
  len l sp := by
    have := bulk_len l
    have e : Rows.uptoBulk (.slice l sp) = Rows.uptoBulkAll l + Rows.uptoBulkAll sp + 1 := by rw [Rows.uptoBulk]
    omega
  elem l sp d h := by
    have := bulk_mem h
    have e : Rows.uptoBulk (.slice l sp) = Rows.uptoBulkAll l + Rows.uptoBulkAll sp + 1 := by rw [Rows.uptoBulk]
    omega
  pos := bulk_pos
  wstr s := by unfold Rows.uptoBulk; exact Nat.le_refl _
  wagg l := by
    have e : Rows.uptoBulk (.agg l) = Rows.uptoBulkAll l + 1 := by rw [Rows.uptoBulk]
    rw [bulk_sum]
    omega
  wslice l sp := by
    have e : Rows.uptoBulk (.slice l sp) = Rows.uptoBulkAll l + Rows.uptoBulkAll sp + 1 := by rw [Rows.uptoBulk]
    rw [bulk_sum]
    omega
theorem exprTy : ExprTy Tryd.prog 28 3 2 9 26 where
  e := ⟨_, Tryd.underlying28, rfl⟩
  int := Tryd.underlying3
  i := Tryd.underlying2
  str := Tryd.underlying9
  es := Tryd.underlying26
  ce := by kernel_rfl
  cint := by kernel_rfl
  ci := by kernel_rfl
  cstr := by kernel_rfl
  ces := by kernel_rfl
theorem procTy : ProcTy Tryd.prog 25 56 22 35 28 3 2 9 26 23 where
  toExprTy := exprTy
  s := ⟨_, Tryd.underlying35, rfl⟩
  ss := Tryd.underlying23
  cs := by kernel_rfl
  css := by kernel_rfl
  p := ⟨_, Tryd.underlying25, rfl⟩
  pm := ⟨_, Tryd.underlying56, rfl⟩
  pms := Tryd.underlying22
  cp := by kernel_rfl
  cpm := by kernel_rfl
  cpms := by kernel_rfl
theorem laid : laidOutB Tryd.prog = true := by kernel_rfl
def goodT : List TypeId := [3, 2, 9, 28, 26, 25, 56, 22, 35, 23, 46, 5, 43, 44]
theorem plan : planT Tryd.prog goodT = true := by kernel_rfl
noncomputable def structT (t : TypeId) : Bool := match Tryd.prog.underlying t with
  | some (.struct _) => true
  | _ => false
/-- what comes in for an argument of this type -/
def Good (t : TypeId) (x : AV) : Prop := ∃ n ds, shapeT Tryd.prog 1048576 n t ds ∧ wRow ds ≤ 1048576 ∧ if structT t = true then x = .agg (ds.map .d) else ∃ d, ds = [d] ∧ x = .d d
theorem cells_one {v : Value} (h : ∀ cs, v ≠ .agg cs) : v.cells.toList = [v] := by
  cases v with
  | agg cs => exact absurd rfl (h cs)
  | _ => rfl
theorem good_rd {H : Type} {enc : TypeId × Value → H} {W : World} {base : Nat} : ∀ t v (d : DataW H) ps, t ∈ goodT → Value.okWide Tryd.prog W .any base t v → DataW.Trod enc Tryd.prog W 0 (fun _ => true) true t v d ps → Rows.uptoBulk d ≤ 1048576 →
    ∃ x, Good t x ∧ ∀ A, RelV W (gh0 W) A x v := by
  intro t v d ps ht hw h hb
  obtain ⟨n, hn⟩ := h
  have hk := List.all_eq_true.1 plan t ht
  obtain ⟨ds, h1, h2, h3⟩ := readW (N := 1048576) plan bulkW n t v.cells.toList _ (List.contains_iff_mem.2 ht) hn hb
  have hone : structT t = false → (∀ cs, v ≠ .agg cs) → ∃ x, Good t x ∧ ∀ A, RelV W (gh0 W) A x v := by
    intro hs hv
    rw [cells_one hv] at h1
    obtain ⟨x, rfl⟩ : ∃ x, ds = [x] := by
      have := h1.1
      match ds, this with
      | [x], _ => exact ⟨x, rfl⟩
      | [], h => simp at h
      | _ :: _ :: _, h => simp at h
    exact ⟨.d x, ⟨n, [x], h2, Nat.le_trans h3 hb, by rw [hs]; exact ⟨x, rfl, rfl⟩⟩, fun A => rel_one h1⟩
  cases hu : Tryd.prog.underlying t with
  | none => rw [hu] at hk; cases hk
  | some u =>
    rw [hu] at hk
    have hs : structT t = match (some u : Option TypeDesc) with | some (.struct _) => true | _ => false := by unfold structT; rw [hu]
    cases u with
    | struct fs =>
      unfold Value.okWide at hw
      rw [hu] at hw
      obtain ⟨cs, rfl, -, -⟩ := hw
      exact ⟨.agg (ds.map .d), ⟨n, ds, h2, Nat.le_trans h3 hb, by rw [hs]; rfl⟩, fun A => rel_agg h1⟩
    | bool | int _ | string | slice _ =>
      refine hone hs fun cs he => ?_
      subst he
      unfold Value.okWide at hw
      rw [hu] at hw
      change Cell.okWide Tryd.prog W .any base t (Value.agg cs) at hw
      simp only [Cell.okWide, Cell.ok, hu] at hw
    | _ => cases hk
theorem good_struct {t : TypeId} {x : AV} (h : Good t x) (hs : structT t = true) : ∃ n ds, shapeT Tryd.prog 1048576 n t ds ∧ wRow ds ≤ 1048576 ∧ x = .agg (ds.map .d) := by
  obtain ⟨n, ds, h1, h2, h3⟩ := h
  rw [hs] at h3
  exact ⟨n, ds, h1, h2, h3⟩
theorem good_one {t : TypeId} {x : AV} (h : Good t x) (hs : structT t = false) : ∃ n d, shapeT Tryd.prog 1048576 n t [d] ∧ wD d ≤ 1048576 ∧ x = .d d := by
  obtain ⟨n, ds, h1, h2, h3⟩ := h
  rw [hs] at h3
  obtain ⟨d, rfl, h3⟩ := h3
  exact ⟨n, d, h1, by simpa [wRow] using h2, h3⟩
theorem av_row (p : E) : AV.agg (p.row.map .d) = E.av p := by rw [E.row_eq]; rfl
set_option maxRecDepth 100000 in
theorem goodExpr {x : AV} (h : Good 28 x) : ∃ p : E, (p.Ok ∧ wRow p.row ≤ 1048576) ∧ x = E.av p := by
  obtain ⟨n, ds, h1, h2, rfl⟩ := good_struct h (by kernel_rfl)
  obtain ⟨e, hok, rfl⟩ := readE exprTy (by decide) n ds h1
  exact ⟨e, ⟨hok, h2⟩, av_row e⟩
set_option maxRecDepth 100000 in
theorem goodProc {x : AV} (h : Good 25 x) : ∃ p : Pr, p.Ok ∧ x = .agg (p.row.map .d) := by
  obtain ⟨n, ds, h1, h2, rfl⟩ := good_struct h (by kernel_rfl)
  obtain ⟨e, hok, rfl⟩ := readP procTy (by decide) n ds h1
  exact ⟨e, hok, rfl⟩
set_option maxRecDepth 100000 in
theorem goodStr {x : AV} (h : Good 9 x) : ∃ s : Bytes, s.length ≤ 1048576 ∧ x = .d (.str s) := by
  obtain ⟨n, d, h1, h2, rfl⟩ := good_one h (by kernel_rfl)
  obtain ⟨s, rfl, hs⟩ := shape_str exprTy.str h1
  exact ⟨s, hs, rfl⟩
set_option maxRecDepth 100000 in
theorem goodInt {x : AV} (h : Good 3 x) : ∃ n : Int, i64 n ∧ x = .d (.int .i64 n) := by
  obtain ⟨n, d, h1, h2, rfl⟩ := good_one h (by kernel_rfl)
  obtain ⟨m, rfl, hm⟩ := shape_i64 exprTy.int h1
  exact ⟨m, hm, rfl⟩
set_option maxRecDepth 100000 in
theorem goodByte {x : AV} (h : Good 5 x) : ∃ n : Int, (0 ≤ n ∧ n ≤ 255) ∧ x = .d (.int .u8 n) := by
  obtain ⟨n, d, h1, h2, rfl⟩ := good_one h (by kernel_rfl)
  obtain ⟨m, hm, hw⟩ := shape_int (k := .u8) Tryd.underlying5 h1
  cases hm
  refine ⟨m, ?_, rfl⟩
  have e1 : IntKind.u8.min = 0 := by decide
  have e2 : IntKind.u8.max = 255 := by decide
  simp only [Lit.wf, Bool.and_eq_true, decide_eq_true_eq, e1, e2] at hw
  exact hw
def iRow1 (n : Int) : List Dat := [.int .i64 n]
def sRow1 (s : Bytes) : List Dat := [.str s]
set_option maxRecDepth 100000 in
theorem goodInts {x : AV} (h : Good 43 x) : ∃ l : List Int, (l.length ≤ 1048576 ∧ ∀ n ∈ l, i64 n) ∧ x = .d (.slice (l.map iRow1)) := by
  obtain ⟨n, d, h1, h2, rfl⟩ := good_one h (by kernel_rfl)
  obtain ⟨k, rows, rfl, rfl, hr, hrows⟩ := shape_slice Tryd.underlying43 h1
  obtain ⟨l, rfl, hll, hok⟩ := rows_of (ok := i64) (row := iRow1) fun r hr => by
    obtain ⟨m, hm, hw⟩ := shape_int exprTy.int (hrows r hr).2
    exact ⟨m, i64_of_wf hw, hm⟩
  exact ⟨l, ⟨by omega, hok⟩, rfl⟩
set_option maxRecDepth 100000 in
theorem goodStrs {x : AV} (h : Good 44 x) : ∃ l : List Bytes, (l.length ≤ 1048576 ∧ ∀ s ∈ l, s.length ≤ 1048576) ∧ x = .d (.slice (l.map sRow1)) := by
  obtain ⟨n, d, h1, h2, rfl⟩ := good_one h (by kernel_rfl)
  obtain ⟨k, rows, rfl, rfl, hr, hrows⟩ := shape_slice Tryd.underlying44 h1
  have c1 : Tryd.prog.cellsOf 9 = 1 := exprTy.cstr
  obtain ⟨l, rfl, hll, hok⟩ := rows_of (ok := fun s : Bytes => s.length ≤ 1048576) (row := sRow1) fun r hr => by
    obtain ⟨hl, hs⟩ := hrows r hr
    rw [c1] at hl
    obtain ⟨x, rfl⟩ : ∃ x, r = [x] := by
      match r, hl with
      | [x], _ => exact ⟨x, rfl⟩
    obtain ⟨s, rfl, hs2⟩ := shape_str exprTy.str hs
    exact ⟨s, hs2, rfl⟩
  exact ⟨l, ⟨by omega, hok⟩, rfl⟩
set_option maxRecDepth 100000 in
theorem goodProcs {x : AV} (h : Good 46 x) : ∃ l : List Pr, (l.length ≤ 1048576 ∧ (∀ p ∈ l, p.Ok) ∧ wRows (l.map Pr.row) ≤ 1048576) ∧ x = .d (.slice (l.map Pr.row)) := by
  obtain ⟨n, d, h1, h2, rfl⟩ := good_one h (by kernel_rfl)
  obtain ⟨k, rows, rfl, rfl, hr, hrows⟩ := shape_slice Tryd.underlying46 h1
  obtain ⟨l, rfl, hll, hok⟩ := rows_of (ok := Pr.Ok) (row := Pr.row) fun r hr => readP procTy (by decide) k r (hrows r hr).2
  simp only [wD] at h2
  exact ⟨l, ⟨by omega, hok, by omega⟩, rfl⟩
set_option maxRecDepth 100000 in
theorem lawNI {H : Type} {enc : TypeId × Value → H} {f : FuncId} {fn : Func} {s : ChangeSpec} {tb : TypeId} {W : World} {base N : Nat} {args : Array Value} {ds gs : List (DataW H)} {before : List MemPlace} {B : DataW H → Nat} {Good : TypeId → AV → Prop} {T : List TypeId}
    (hi : Lib.TabIs Tryd.prog W "internal/strconv.uint64pow10" .u64 Lib.pow10Tab)
    (hl : laidOutB Tryd.prog = true) (hread : ∀ t ∈ fn.params.toList, Tryd.prog.readableRec t = true ∧ t < Tryd.prog.types.size) (hT : ∀ t ∈ fn.params.toList, t ∈ T)
    (hres : fn.resultTypes = #[tb]) (htb : Tryd.prog.underlying tb = some .bool) (hone : Tryd.prog.cellsOf tb = 1) (hvars : s.vars = []) (hfn : ∀ ds : List (DataW H), ds.length = fn.params.toList.length → s.fn H ds = { results := [.lit (.bool true)], args := ds })
    (hval : ∀ (j : Nat) t v, fn.params[j]? = some t → args[j]? = some v → Value.okWide Tryd.prog W .any base t v)
    (hW : DataW.Whole enc Tryd.prog fn.params.toList s.vars false W args.toList ds gs before) (hk : ∀ d ∈ ds, B d ≤ N)
    (rd : ∀ t v d ps, t ∈ T → Value.okWide Tryd.prog W .any base t v → DataW.Trod enc Tryd.prog W 0 (fun _ => true) true t v d ps → B d ≤ N → ∃ x, Good t x ∧ ∀ A, RelV W (gh0 W) A x v)
    (law : ∀ xs, goods Good fn.params.toList xs → acl C f xs A00 = some (.d (.bool true), A00)) :
    Calls Tryd.prog f args W fun e W' => ∃ v, e = .returned v ∧ s.post enc Tryd.prog fn false true false false W args v W' := by
  have hW' := hW
  obtain ⟨p, q, hA, hV, rfl, hfz, hnd⟩ := hW
  obtain ⟨hlen, xs, hg, hxl, hrel⟩ := trod_rel rd fn.params.toList args.toList ds p hT hA (fun j t v h1 h2 => hval j t v (by simpa using h1) (by simpa using h2)) hk
  have hcall := call_at (law xs hg) (W := W) (vs := args.toList) hi ⟨hxl, fun i x v h1 h2 => hrel _ i x v h1 h2⟩
  exact law_post hl hread hvars hres htb hone hW' (hfn ds hlen) (by simpa using hcall)
set_option maxRecDepth 100000 in
theorem lawG {H : Type} {enc : TypeId × Value → H} {f : FuncId} {fn : Func} {s : ChangeSpec} {W : World} {base : Nat} {args : Array Value} {ds gs : List (DataW H)} {before : List MemPlace}
    (hpar : fn.params.toList.all (goodT.contains ·) = true) (hres : fn.resultTypes = #[4]) (hvars : s.vars = []) (hfn : ∀ ds : List (DataW H), ds.length = fn.params.toList.length → s.fn H ds = { results := [.lit (.bool true)], args := ds })
    (hval : ∀ (j : Nat) t v, fn.params[j]? = some t → args[j]? = some v → Value.okWide Tryd.prog W .any base t v)
    (hW : DataW.Whole enc Tryd.prog fn.params.toList s.vars false W args.toList ds gs before) (hk : Rows.uptoSmall H (ds ++ gs) = true)
    (hi : Lib.TabIs Tryd.prog W "internal/strconv.uint64pow10" .u64 Lib.pow10Tab)
    (law : ∀ xs, goods Good fn.params.toList xs → acl C f xs A00 = some (.d (.bool true), A00)) :
    Calls Tryd.prog f args W fun e W' => ∃ v, e = .returned v ∧ s.post enc Tryd.prog fn false true false false W args v W' := by
  have hT : ∀ t ∈ fn.params.toList, t ∈ goodT := fun t ht => by
    have := List.all_eq_true.1 hpar t ht
    exact List.contains_iff_mem.1 this
  have hsz : Rows.uptoBulkAll (ds ++ gs) ≤ 1048576 := by simpa [Rows.uptoSmall] using hk
  exact lawNI hi laid (fun t ht => by
      have : goodT.all (fun t => Tryd.prog.readableRec t && decide (t < Tryd.prog.types.size)) = true := by kernel_rfl
      have := List.all_eq_true.1 this t (hT t ht)
      simpa using this) hT hres Tryd.underlying4 (by kernel_rfl) hvars hfn hval hW
    (fun d hd => Nat.le_trans (bulk_mem (List.mem_append_left _ hd)) hsz) good_rd law
/- the table, from the row's list -/
theorem gTab : Tryd.prog.globalNamed "internal/strconv.uint64pow10" = some 1 := by kernel_rfl
theorem gTabType : (Tryd.prog.globals[1]?).map (·.type) = some 117 := by kernel_rfl
theorem cellsTab : Tryd.prog.cellsOf 117 = 20 := by kernel_rfl
theorem cellsU : Tryd.prog.cellsOf 104 = 1 := by kernel_rfl
theorem table {W : World} (h : laidMetH Tryd.prog [("math/bits.deBruijn32tab", Rows.laid_math_bits_deBruijn32tab), ("math/bits.deBruijn64tab", Rows.laid_math_bits_deBruijn64tab), ("internal/strconv.uint64pow10", Rows.laid_internal_strconv_uint64pow10)] W) : Lib.TabIs Tryd.prog W "internal/strconv.uint64pow10" .u64 Lib.pow10Tab := by
  rw [MakeChecks.laidMetH_plain _ _ _ (by kernel_rfl)] at h
  exact Lib.tabIs_of_head (rest := []) gTab gTabType Tryd.underlying117 Tryd.underlying104 cellsU cellsTab h.tail.tail
def setCells (cs : Array Value) : Obj → Obj
  | .cells _ t frozen => .cells cs t frozen
  | o => o
/-- a world for the witness: the tables hold what their initialisers lay -/
noncomputable def laidWorld (os : Os) : World :=
  { World.holding Tryd.prog os ⟨#[], #[], []⟩ with heap := (((World.holding Tryd.prog os ⟨#[], #[], []⟩).heap.modify 1 (setCells #[.int .u64 1, .int .u64 10, .int .u64 100, .int .u64 1000, .int .u64 10000, .int .u64 100000, .int .u64 1000000, .int .u64 10000000, .int .u64 100000000, .int .u64 1000000000, .int .u64 10000000000, .int .u64 100000000000, .int .u64 1000000000000, .int .u64 10000000000000, .int .u64 100000000000000, .int .u64 1000000000000000, .int .u64 10000000000000000, .int .u64 100000000000000000, .int .u64 1000000000000000000, .int .u64 10000000000000000000])).modify 2 (setCells #[.int .u8 0, .int .u8 1, .int .u8 28, .int .u8 2, .int .u8 29, .int .u8 14, .int .u8 24, .int .u8 3, .int .u8 30, .int .u8 22, .int .u8 20, .int .u8 15, .int .u8 25, .int .u8 17, .int .u8 4, .int .u8 8, .int .u8 31, .int .u8 27, .int .u8 13, .int .u8 23, .int .u8 21, .int .u8 19, .int .u8 16, .int .u8 7, .int .u8 26, .int .u8 12, .int .u8 18, .int .u8 6, .int .u8 11, .int .u8 5, .int .u8 10, .int .u8 9])).modify 3 (setCells #[.int .u8 0, .int .u8 1, .int .u8 56, .int .u8 2, .int .u8 57, .int .u8 49, .int .u8 28, .int .u8 3, .int .u8 61, .int .u8 58, .int .u8 42, .int .u8 50, .int .u8 38, .int .u8 29, .int .u8 17, .int .u8 4, .int .u8 62, .int .u8 47, .int .u8 59, .int .u8 36, .int .u8 45, .int .u8 43, .int .u8 51, .int .u8 22, .int .u8 53, .int .u8 39, .int .u8 33, .int .u8 30, .int .u8 24, .int .u8 18, .int .u8 12, .int .u8 5, .int .u8 63, .int .u8 55, .int .u8 48, .int .u8 27, .int .u8 60, .int .u8 41, .int .u8 37, .int .u8 16, .int .u8 46, .int .u8 35, .int .u8 44, .int .u8 21, .int .u8 52, .int .u8 32, .int .u8 23, .int .u8 11, .int .u8 54, .int .u8 26, .int .u8 40, .int .u8 15, .int .u8 34, .int .u8 20, .int .u8 31, .int .u8 10, .int .u8 25, .int .u8 14, .int .u8 19, .int .u8 9, .int .u8 13, .int .u8 8, .int .u8 7, .int .u8 6]) }
end Go.Proofs.YtfflfaedghfmdaaDoor
