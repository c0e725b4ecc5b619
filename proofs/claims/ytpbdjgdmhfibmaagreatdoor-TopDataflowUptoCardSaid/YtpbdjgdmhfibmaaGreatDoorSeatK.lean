/- How the arguments of the laws are read: each by its type, with its weight. -/
import Derived.Test.YtpbdjgdmhfibmaaGreatDoorRows
import Derived.Test.YtpbdjgdmhfibmaaGreatDoorChecked
import Derived.JoinedCond
import Derived.Deep.DeepHandedRow
import Derived.Lib.LaidTab
import Derived.Stop.LaidErr
import Derived.MakeChecks
import Derived.Test.YtpbdjgdmhfibmaaGreatDoorGenD
import Derived.Test.YtpbdjgdmhfibmaaGreatDoorSeatA
import Derived.Test.YtpbdjgdmhfibmaaGreatDoorSeatJ
set_option linter.unusedVariables false
set_option linter.unusedSimpArgs false
set_option linter.all false
set_option linter.deprecated false
set_option linter.all false
namespace Go.Proofs.YtpbdjgdmhfibmaaGreatDoor
open Go.ChangeShapes Go.WideShapes Go.ChangeAt Go.RowKit
open Go.Abs
theorem bulk_sum {H : Type} : ∀ (l : List (DataW H)), sumB Rows.uptoBulk l = Rows.uptoBulkAll l
 | [] => by rw [sumB, Rows.uptoBulkAll]
 | x :: l => by rw [sumB, Rows.uptoBulkAll, bulk_sum l]
theorem bulkW {H : Type} : BulkW (Rows.uptoBulk (H := H)) where
 str s := by unfold Rows.uptoBulk; simp
 agg l d h := by
  have := bulk_mem h
  have e : Rows.uptoBulk (.agg l) = Rows.uptoBulkAll l + 1 := by rw [Rows.uptoBulk]
  omega
 len l sp := by
  have := bulk_len l
  have e : Rows.uptoBulk (.slice l sp) = Rows.uptoBulkAll l + Rows.uptoBulkAll sp + 1 := by rw [Rows.uptoBulk]
  omega
 elem l sp d h := by
  have := bulk_mem h
  have e : Rows.uptoBulk (.slice l sp) = Rows.uptoBulkAll l + Rows.uptoBulkAll sp + 1 := by rw [Rows.uptoBulk]
  omega
 pos := bulk_pos
 wstr s := by unfold Rows.uptoBulk; exact Nat.le_refl _
 wagg l := by
  have e : Rows.uptoBulk (.agg l) = Rows.uptoBulkAll l + 1 := by rw [Rows.uptoBulk]
  rw [bulk_sum]
  omega
 wslice l sp := by
  have e : Rows.uptoBulk (.slice l sp) = Rows.uptoBulkAll l + Rows.uptoBulkAll sp + 1 := by rw [Rows.uptoBulk]
  rw [bulk_sum]
  omega
def goodTU : List TypeId := [3, 2, 9, 62, 60, 25, 53, 22, 64, 23, 69, 26, 71, 27]
theorem planU : planT Tryz.prog goodTU = true := by kernel_rfl
noncomputable def structT (t : TypeId) : Bool := match Tryz.prog.underlying t with
 | some (.struct _) => true
 | _ => false
def GoodU (t : TypeId) (x : AV) : Prop := ∃ n ds, shapeT Tryz.prog 1048576 n t ds ∧ wRow ds ≤ 1048576 ∧ if structT t = true then x = .agg (ds.map .d) else ∃ d, ds = [d] ∧ x = .d d
theorem cells_oneU {v : Value} (h : ∀ cs, v ≠ .agg cs) : v.cells.toList = [v] := by
 cases v with
 | agg cs => exact absurd rfl (h cs)
 | _ => rfl
theorem good_rdU {H : Type} {enc : TypeId × Value → H} {W : World} {base : Nat} : ∀ t v (d : DataW H) ps, t ∈ goodTU → Value.okWide Tryz.prog W .any base t v → DataW.Trod enc Tryz.prog W 0 (fun _ => true) true t v d ps → Rows.uptoBulk d ≤ 1048576 →
  ∃ x, GoodU t x ∧ ∀ A, RelV W (gh0 W) A x v := by
 intro t v d ps ht hw h hb
 obtain ⟨n, hn⟩ := h
 have hk := List.all_eq_true.1 planU t ht
 obtain ⟨ds, h1, h2, h3⟩ := readW (N := 1048576) planU bulkW n t v.cells.toList _ (List.contains_iff_mem.2 ht) hn hb
 have hone : structT t = false → (∀ cs, v ≠ .agg cs) → ∃ x, GoodU t x ∧ ∀ A, RelV W (gh0 W) A x v := by
  intro hs hv
  rw [cells_oneU hv] at h1
  obtain ⟨x, rfl⟩ : ∃ x, ds = [x] := by
   have := h1.1
   match ds, this with
   | [x], _ => exact ⟨x, rfl⟩
   | [], h => simp at h
   | _ :: _ :: _, h => simp at h
  exact ⟨.d x, ⟨n, [x], h2, Nat.le_trans h3 hb, by rw [hs]; exact ⟨x, rfl, rfl⟩⟩, fun A => rel_one h1⟩
 cases hu : Tryz.prog.underlying t with
 | none => rw [hu] at hk; cases hk
 | some u =>
   rw [hu] at hk
   have hs : structT t = match (some u : Option TypeDesc) with | some (.struct _) => true | _ => false := by unfold structT; rw [hu]
   cases u with
   | struct fs =>
     unfold Value.okWide at hw
     rw [hu] at hw
     obtain ⟨cs, rfl, -, -⟩ := hw
     exact ⟨.agg (ds.map .d), ⟨n, ds, h2, Nat.le_trans h3 hb, by rw [hs]; rfl⟩, fun A => rel_agg h1⟩
   | bool | int _ | string | slice _ =>
     refine hone hs fun cs he => ?_
     subst he
     unfold Value.okWide at hw
     rw [hu] at hw
     change Cell.okWide Tryz.prog W .any base t (Value.agg cs) at hw
     simp only [Cell.okWide, Cell.ok, hu] at hw
   | _ => cases hk
theorem good_struct {t : TypeId} {x : AV} (h : GoodU t x) (hs : structT t = true) : ∃ n ds, shapeT Tryz.prog 1048576 n t ds ∧ wRow ds ≤ 1048576 ∧ x = .agg (ds.map .d) := by
 obtain ⟨n, ds, h1, h2, h3⟩ := h
 rw [hs] at h3
 exact ⟨n, ds, h1, h2, h3⟩
theorem good_one {t : TypeId} {x : AV} (h : GoodU t x) (hs : structT t = false) : ∃ n d, shapeT Tryz.prog 1048576 n t [d] ∧ wD d ≤ 1048576 ∧ x = .d d := by
 obtain ⟨n, ds, h1, h2, h3⟩ := h
 rw [hs] at h3
 obtain ⟨d, rfl, h3⟩ := h3
 exact ⟨n, d, h1, by simpa [wRow] using h2, h3⟩
set_option maxRecDepth 100000 in
theorem goodProcU {x : AV} (h : GoodU 25 x) : ∃ p : Pr, p.Ok ∧ x = .agg (p.row.map .d) := by
 obtain ⟨n, ds, h1, h2, rfl⟩ := good_struct h (by kernel_rfl)
 obtain ⟨e, hok, rfl⟩ := readP procTy (by decide) n ds h1
 exact ⟨e, hok, rfl⟩
set_option maxRecDepth 100000 in
theorem goodValuesU {x : AV} (h : GoodU 26 x) : ∃ l : List Vl, (l.length ≤ 1048576 ∧ ∀ v ∈ l, v.Ok) ∧ x = .d (.slice (l.map Vl.row)) := by
 obtain ⟨n, d, h1, h2, rfl⟩ := good_one h (by kernel_rfl)
 obtain ⟨k, rows, rfl, rfl, hr, hrows⟩ := shape_slice Tryz.underlying26 h1
 obtain ⟨l, rfl, hll, hok⟩ := rows_of (ok := Vl.Ok) (row := Vl.row) fun r hr => readVl k r (hrows r hr).2
 exact ⟨l, ⟨by omega, hok⟩, rfl⟩
theorem cell_pair : Tryz.prog.cellsOf 71 = 4 := by kernel_rfl
theorem cell_value : Tryz.prog.cellsOf 69 = 3 := by kernel_rfl
theorem readKv (n : Nat) (ds : List Dat) (h : shapeT Tryz.prog 1048576 n 71 ds) : ∃ p : Kv, (p.key.length ≤ 1099511627776 ∧ p.v.Ok) ∧ ds = p.row := by
 obtain ⟨k, rfl, hl, hf⟩ := shape_struct (l := [(9, 0), (69, 1)]) ⟨_, Tryz.underlying71, rfl⟩ h
 rw [cell_pair] at hl
 obtain ⟨d0, d1, d2, d3, rfl⟩ := len4 hl
 have h0 := hf (9, 0) (by simp)
 have h1 := hf (69, 1) (by simp)
 simp only [exprTy.cstr, cell_value, List.drop_zero, List.drop_succ_cons, List.take_succ_cons, List.take_zero] at h0 h1
 obtain ⟨s, rfl, hs⟩ := shape_str exprTy.str h0
 obtain ⟨v, hv, he⟩ := readVl k _ h1
 refine ⟨⟨s, v⟩, ⟨by show s.length ≤ _; omega, hv⟩, ?_⟩
 show [Dat.str s, d1, d2, d3] = _
 rw [he]
 rfl
set_option maxRecDepth 100000 in
theorem goodPairs {x : AV} (h : GoodU 27 x) : ∃ l : List Kv, (l.length ≤ 1048576 ∧ ∀ p ∈ l, p.key.length ≤ 1099511627776 ∧ p.v.Ok) ∧ x = .d (.slice (l.map Kv.row)) := by
 obtain ⟨n, d, h1, h2, rfl⟩ := good_one h (by kernel_rfl)
 obtain ⟨k, rows, rfl, rfl, hr, hrows⟩ := shape_slice Tryz.underlying27 h1
 obtain ⟨l, rfl, hll, hok⟩ := rows_of (ok := fun p : Kv => p.key.length ≤ 1099511627776 ∧ p.v.Ok) (row := Kv.row) fun r hr => readKv k r (hrows r hr).2
 exact ⟨l, ⟨by omega, hok⟩, rfl⟩
theorem call_at {f : FuncId} {xs : List AV} {b : Bool} {A' : AHeap} (h : acl D f xs A00 = some (.d (.bool b), A')) {W : World} {vs : List Value} (hi : Lib.TabIs Tryz.prog W "internal/strconv.uint64pow10" .u64 Lib.pow10Tab) (hr : RelL W (gh0 W) A00 xs vs) :
  Calls Tryz.prog f vs.toArray W fun e W' => e = .returned (.bool b) ∧ Go.Abs.Grown W W' ∧ Go.Abs.Stands W W' :=
 call_lawI IT_closed mixedD extOkD h (varI_top hi) hr
set_option maxRecDepth 100000 in
theorem lawNI10 {H : Type} {enc : TypeId × Value → H} {f : FuncId} {fn : Func} {s : ChangeSpec} {tb : TypeId} {W : World} {base N : Nat} {args : Array Value} {ds gs : List (DataW H)} {before : List MemPlace} {B : DataW H → Nat} {GoodU : TypeId → AV → Prop} {T : List TypeId}
  (hi : Lib.TabIs Tryz.prog W "internal/strconv.uint64pow10" .u64 Lib.pow10Tab)
  (hl : laidOutB Tryz.prog = true) (hread : ∀ t ∈ fn.params.toList, Tryz.prog.readableRec t = true ∧ t < Tryz.prog.types.size) (hT : ∀ t ∈ fn.params.toList, t ∈ T)
  (hres : fn.resultTypes = #[tb]) (htb : Tryz.prog.underlying tb = some .bool) (hone : Tryz.prog.cellsOf tb = 1) (hvars : s.vars = []) (hfn : ∀ ds : List (DataW H), ds.length = fn.params.toList.length → s.fn H ds = { results := [.lit (.bool true)], args := ds })
  (hval : ∀ (j : Nat) t v, fn.params[j]? = some t → args[j]? = some v → Value.okWide Tryz.prog W .any base t v)
  (hW : DataW.Whole enc Tryz.prog fn.params.toList s.vars false W args.toList ds gs before) (hk : ∀ d ∈ ds, B d ≤ N)
  (rd : ∀ t v d ps, t ∈ T → Value.okWide Tryz.prog W .any base t v → DataW.Trod enc Tryz.prog W 0 (fun _ => true) true t v d ps → B d ≤ N → ∃ x, GoodU t x ∧ ∀ A, RelV W (gh0 W) A x v)
  (law : ∀ xs, goods GoodU fn.params.toList xs → acl D f xs A00 = some (.d (.bool true), A00)) :
  Calls Tryz.prog f args W fun e W' => ∃ v, e = .returned v ∧ s.post enc Tryz.prog fn false true false false W args v W' := by
 have hW' := hW
 obtain ⟨p, q, hA, hV, rfl, hfz, hnd⟩ := hW
 obtain ⟨hlen, xs, hg, hxl, hrel⟩ := trod_rel rd fn.params.toList args.toList ds p hT hA (fun j t v h1 h2 => hval j t v (by simpa using h1) (by simpa using h2)) hk
 have hcall := call_at (law xs hg) (W := W) (vs := args.toList) hi ⟨hxl, fun i x v h1 h2 => hrel _ i x v h1 h2⟩
 exact law_post hl hread hvars hres htb hone hW' (hfn ds hlen) (by simpa using hcall)
set_option maxRecDepth 100000 in
theorem lawG10 {H : Type} {enc : TypeId × Value → H} {f : FuncId} {fn : Func} {s : ChangeSpec} {W : World} {base : Nat} {args : Array Value} {ds gs : List (DataW H)} {before : List MemPlace}
  (hpar : fn.params.toList.all (goodTU.contains ·) = true) (hres : fn.resultTypes = #[4]) (hvars : s.vars = []) (hfn : ∀ ds : List (DataW H), ds.length = fn.params.toList.length → s.fn H ds = { results := [.lit (.bool true)], args := ds })
  (hval : ∀ (j : Nat) t v, fn.params[j]? = some t → args[j]? = some v → Value.okWide Tryz.prog W .any base t v)
  (hW : DataW.Whole enc Tryz.prog fn.params.toList s.vars false W args.toList ds gs before) (hk : Rows.uptoSmall H (ds ++ gs) = true)
  (hi : Lib.TabIs Tryz.prog W "internal/strconv.uint64pow10" .u64 Lib.pow10Tab)
  (law : ∀ xs, goods GoodU fn.params.toList xs → acl D f xs A00 = some (.d (.bool true), A00)) :
  Calls Tryz.prog f args W fun e W' => ∃ v, e = .returned v ∧ s.post enc Tryz.prog fn false true false false W args v W' := by
 have hT : ∀ t ∈ fn.params.toList, t ∈ goodTU := fun t ht => by
  have := List.all_eq_true.1 hpar t ht
  exact List.contains_iff_mem.1 this
 have hsz : Rows.uptoBulkAll (ds ++ gs) ≤ 1048576 := by simpa [Rows.uptoSmall] using hk
 exact lawNI10 hi laid (fun t ht => by
   have : goodTU.all (fun t => Tryz.prog.readableRec t && decide (t < Tryz.prog.types.size)) = true := by kernel_rfl
   have := List.all_eq_true.1 this t (hT t ht)
   simpa using this) hT hres Tryz.underlying4 (by kernel_rfl) hvars hfn hval hW
  (fun d hd => Nat.le_trans (bulk_mem (List.mem_append_left _ hd)) hsz) good_rdU law
/- the table, from the row's list -/
theorem gTab : Tryz.prog.globalNamed "internal/strconv.uint64pow10" = some 1 := by kernel_rfl
theorem gTabType : (Tryz.prog.globals[1]?).map (·.type) = some 294 := by kernel_rfl
theorem cellsTab : Tryz.prog.cellsOf 294 = 20 := by kernel_rfl
theorem cellsU : Tryz.prog.cellsOf 233 = 1 := by kernel_rfl
theorem table {W : World} (h : laidMetH Tryz.prog [("math/bits.deBruijn32tab", Rows.laid_math_bits_deBruijn32tab), ("math/bits.deBruijn64tab", Rows.laid_math_bits_deBruijn64tab), ("internal/strconv.uint64pow10", Rows.laid_internal_strconv_uint64pow10)] W) : Lib.TabIs Tryz.prog W "internal/strconv.uint64pow10" .u64 Lib.pow10Tab := by
 rw [MakeChecks.laidMetH_plain _ _ _ (by kernel_rfl)] at h
 exact Lib.tabIs_of_head (rest := []) gTab gTabType Tryz.underlying294 Tryz.underlying233 cellsU cellsTab h.tail.tail
def setCells (cs : Array Value) : Obj → Obj
 | .cells _ t frozen => .cells cs t frozen
 | o => o
noncomputable def laidWorld (os : Os) : World :=
 { World.holding Tryz.prog os ⟨#[], #[], []⟩ with heap := (((World.holding Tryz.prog os ⟨#[], #[], []⟩).heap.modify 1 (setCells #[.int .u64 1, .int .u64 10, .int .u64 100, .int .u64 1000, .int .u64 10000, .int .u64 100000, .int .u64 1000000, .int .u64 10000000, .int .u64 100000000, .int .u64 1000000000, .int .u64 10000000000, .int .u64 100000000000, .int .u64 1000000000000, .int .u64 10000000000000, .int .u64 100000000000000, .int .u64 1000000000000000, .int .u64 10000000000000000, .int .u64 100000000000000000, .int .u64 1000000000000000000, .int .u64 10000000000000000000])).modify 2 (setCells #[.int .u8 0, .int .u8 1, .int .u8 28, .int .u8 2, .int .u8 29, .int .u8 14, .int .u8 24, .int .u8 3, .int .u8 30, .int .u8 22, .int .u8 20, .int .u8 15, .int .u8 25, .int .u8 17, .int .u8 4, .int .u8 8, .int .u8 31, .int .u8 27, .int .u8 13, .int .u8 23, .int .u8 21, .int .u8 19, .int .u8 16, .int .u8 7, .int .u8 26, .int .u8 12, .int .u8 18, .int .u8 6, .int .u8 11, .int .u8 5, .int .u8 10, .int .u8 9])).modify 3 (setCells #[.int .u8 0, .int .u8 1, .int .u8 56, .int .u8 2, .int .u8 57, .int .u8 49, .int .u8 28, .int .u8 3, .int .u8 61, .int .u8 58, .int .u8 42, .int .u8 50, .int .u8 38, .int .u8 29, .int .u8 17, .int .u8 4, .int .u8 62, .int .u8 47, .int .u8 59, .int .u8 36, .int .u8 45, .int .u8 43, .int .u8 51, .int .u8 22, .int .u8 53, .int .u8 39, .int .u8 33, .int .u8 30, .int .u8 24, .int .u8 18, .int .u8 12, .int .u8 5, .int .u8 63, .int .u8 55, .int .u8 48, .int .u8 27, .int .u8 60, .int .u8 41, .int .u8 37, .int .u8 16, .int .u8 46, .int .u8 35, .int .u8 44, .int .u8 21, .int .u8 52, .int .u8 32, .int .u8 23, .int .u8 11, .int .u8 54, .int .u8 26, .int .u8 40, .int .u8 15, .int .u8 34, .int .u8 20, .int .u8 31, .int .u8 10, .int .u8 25, .int .u8 14, .int .u8 19, .int .u8 9, .int .u8 13, .int .u8 8, .int .u8 7, .int .u8 6]) }
end Go.Proofs.YtpbdjgdmhfibmaaGreatDoor
