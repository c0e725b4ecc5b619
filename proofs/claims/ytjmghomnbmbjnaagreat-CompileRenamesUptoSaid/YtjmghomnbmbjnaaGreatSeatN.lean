/- The machine in which the laws run. -/
import Derived.Test.YtjmghomnbmbjnaaGreatRows
import Derived.Test.YtjmghomnbmbjnaaGreatChecked
import Derived.JoinedCond
import Derived.Test.YtjmghomnbmbjnaaGreatSeatK
import Derived.Test.YtjmghomnbmbjnaaGreatGenD
import Derived.Test.YtjmghomnbmbjnaaGreatSeatA
set_option linter.unusedVariables false
set_option linter.unusedSimpArgs false
set_option linter.all false
set_option linter.deprecated false
namespace Go.Proofs.YtjmghomnbmbjnaaGreat
open Go.Abs
noncomputable abbrev CtxL : ACtx := D
theorem ctxMixed : CtxL.P.follows .mixedOrders = true := mixedD
theorem ctxOk : ∀ f h, CtxL.ext f = some h → CallOk1 CtxL.P f h := extOk
end Go.Proofs.YtjmghomnbmbjnaaGreat
set_option linter.all false
namespace Go.Proofs.YtjmghomnbmbjnaaGreat
open Go.ChangeShapes Go.WideShapes Go.ChangeAt Go.RowKit
open Go.Abs
theorem bulk_mem {H : Type} : ∀ {l : List (DataW H)} {d : DataW H}, d ∈ l → Rows.uptoBulk d ≤ Rows.uptoBulkAll l
  | [], _, h => by cases h
  | x :: l, d, h => by
    unfold Rows.uptoBulkAll
    rcases List.mem_cons.1 h with rfl | h
    · omega
    · have := bulk_mem h; omega
theorem bulk_pos {H : Type} (d : DataW H) : 1 ≤ Rows.uptoBulk d := by
  unfold Rows.uptoBulk
  split <;> omega
theorem bulk_len {H : Type} : ∀ (l : List (DataW H)), l.length ≤ Rows.uptoBulkAll l
  | [] => Nat.zero_le _
  | x :: l => by
    have h1 := bulk_pos x
    have h2 := bulk_len l
    unfold Rows.uptoBulkAll
    simp
    omega
theorem bulk_sum {H : Type} : ∀ (l : List (DataW H)), sumB Rows.uptoBulk l = Rows.uptoBulkAll l
  | [] => by rw [sumB, Rows.uptoBulkAll]
  | x :: l => by rw [sumB, Rows.uptoBulkAll, bulk_sum l]
theorem bulkW {H : Type} : BulkW (Rows.uptoBulk (H := H)) where
  str s := by unfold Rows.uptoBulk; simp
  agg l d h := by
    have := bulk_mem h
    have e : Rows.uptoBulk (.agg l) = Rows.uptoBulkAll l + 1 := by rw [Rows.uptoBulk]
    omega
  len l sp := by
    have := bulk_len l
    have e : Rows.uptoBulk (.slice l sp) = Rows.uptoBulkAll l + Rows.uptoBulkAll sp + 1 := by rw [Rows.uptoBulk]
    omega
  elem l sp d h := by
    have := bulk_mem h
    have e : Rows.uptoBulk (.slice l sp) = Rows.uptoBulkAll l + Rows.uptoBulkAll sp + 1 := by rw [Rows.uptoBulk]
    omega
  pos := bulk_pos
  wstr s := by unfold Rows.uptoBulk; exact Nat.le_refl _
  wagg l := by
    have e : Rows.uptoBulk (.agg l) = Rows.uptoBulkAll l + 1 := by rw [Rows.uptoBulk]
    rw [bulk_sum]
    omega
  wslice l sp := by
    have e : Rows.uptoBulk (.slice l sp) = Rows.uptoBulkAll l + Rows.uptoBulkAll sp + 1 := by rw [Rows.uptoBulk]
    rw [bulk_sum]
    omega
theorem exprTy : ExprTy Tryz.prog 50 3 2 9 48 where
  e := ⟨_, Tryz.underlying50, rfl⟩
  int := Tryz.underlying3
  i := Tryz.underlying2
  str := Tryz.underlying9
  es := Tryz.underlying48
  ce := by kernel_rfl
  cint := by kernel_rfl
  ci := by kernel_rfl
  cstr := by kernel_rfl
  ces := by kernel_rfl
theorem procTy : ProcTy Tryz.prog 25 44 22 63 50 3 2 9 48 23 where
  toExprTy := exprTy
  s := ⟨_, Tryz.underlying63, rfl⟩
  ss := Tryz.underlying23
  cs := by kernel_rfl
  css := by kernel_rfl
  p := ⟨_, Tryz.underlying25, rfl⟩
  pm := ⟨_, Tryz.underlying44, rfl⟩
  pms := Tryz.underlying22
  cp := by kernel_rfl
  cpm := by kernel_rfl
  cpms := by kernel_rfl
theorem laid : laidOutB Tryz.prog = true := by kernel_rfl
def goodT : List TypeId := [3, 2, 9, 50, 48, 25, 44, 22, 63, 23, 5, 31, 28]
theorem plan : planT Tryz.prog goodT = true := by kernel_rfl
noncomputable def structT (t : TypeId) : Bool := match Tryz.prog.underlying t with
  | some (.struct _) => true
  | _ => false
def Good (t : TypeId) (x : AV) : Prop := ∃ n ds, shapeT Tryz.prog 1048576 n t ds ∧ wRow ds ≤ 1048576 ∧ if structT t = true then x = .agg (ds.map .d) else ∃ d, ds = [d] ∧ x = .d d
theorem cells_one {v : Value} (h : ∀ cs, v ≠ .agg cs) : v.cells.toList = [v] := by
  cases v with
  | agg cs => exact absurd rfl (h cs)
  | _ => rfl
theorem good_rd {H : Type} {enc : TypeId × Value → H} {W : World} {base : Nat} : ∀ t v (d : DataW H) ps, t ∈ goodT → Value.okWide Tryz.prog W .any base t v → DataW.Trod enc Tryz.prog W 0 (fun _ => true) true t v d ps → Rows.uptoBulk d ≤ 1048576 →
    ∃ x, Good t x ∧ ∀ A, RelV W (gh0 W) A x v := by
  intro t v d ps ht hw h hb
  obtain ⟨n, hn⟩ := h
  have hk := List.all_eq_true.1 plan t ht
  obtain ⟨ds, h1, h2, h3⟩ := readW (N := 1048576) plan bulkW n t v.cells.toList _ (List.contains_iff_mem.2 ht) hn hb
  have hone : structT t = false → (∀ cs, v ≠ .agg cs) → ∃ x, Good t x ∧ ∀ A, RelV W (gh0 W) A x v := by
    intro hs hv
    rw [cells_one hv] at h1
    obtain ⟨x, rfl⟩ : ∃ x, ds = [x] := by
      have := h1.1
      match ds, this with
      | [x], _ => exact ⟨x, rfl⟩
      | [], h => simp at h
      | _ :: _ :: _, h => simp at h
    exact ⟨.d x, ⟨n, [x], h2, Nat.le_trans h3 hb, by rw [hs]; exact ⟨x, rfl, rfl⟩⟩, fun A => rel_one h1⟩
  cases hu : Tryz.prog.underlying t with
  | none => rw [hu] at hk; cases hk
  | some u =>
    rw [hu] at hk
    have hs : structT t = match (some u : Option TypeDesc) with | some (.struct _) => true | _ => false := by unfold structT; rw [hu]
    cases u with
    | struct fs =>
      unfold Value.okWide at hw
      rw [hu] at hw
      obtain ⟨cs, rfl, -, -⟩ := hw
      exact ⟨.agg (ds.map .d), ⟨n, ds, h2, Nat.le_trans h3 hb, by rw [hs]; rfl⟩, fun A => rel_agg h1⟩
    | bool | int _ | string | slice _ =>
      refine hone hs fun cs he => ?_
      subst he
      unfold Value.okWide at hw
      rw [hu] at hw
      change Cell.okWide Tryz.prog W .any base t (Value.agg cs) at hw
      simp only [Cell.okWide, Cell.ok, hu] at hw
    | _ => cases hk
theorem good_struct {t : TypeId} {x : AV} (h : Good t x) (hs : structT t = true) : ∃ n ds, shapeT Tryz.prog 1048576 n t ds ∧ wRow ds ≤ 1048576 ∧ x = .agg (ds.map .d) := by
  obtain ⟨n, ds, h1, h2, h3⟩ := h
  rw [hs] at h3
  exact ⟨n, ds, h1, h2, h3⟩
theorem good_one {t : TypeId} {x : AV} (h : Good t x) (hs : structT t = false) : ∃ n d, shapeT Tryz.prog 1048576 n t [d] ∧ wD d ≤ 1048576 ∧ x = .d d := by
  obtain ⟨n, ds, h1, h2, h3⟩ := h
  rw [hs] at h3
  obtain ⟨d, rfl, h3⟩ := h3
  exact ⟨n, d, h1, by simpa [wRow] using h2, h3⟩
set_option maxRecDepth 100000 in
theorem goodProc {x : AV} (h : Good 25 x) : ∃ p : Pr, p.Ok ∧ x = .agg (p.row.map .d) := by
  obtain ⟨n, ds, h1, h2, rfl⟩ := good_struct h (by kernel_rfl)
  obtain ⟨e, hok, rfl⟩ := readP procTy (by decide) n ds h1
  exact ⟨e, hok, rfl⟩
set_option maxRecDepth 100000 in
theorem goodStr {x : AV} (h : Good 9 x) : ∃ s : Bytes, s.length ≤ 1048576 ∧ x = .d (.str s) := by
  obtain ⟨n, d, h1, h2, rfl⟩ := good_one h (by kernel_rfl)
  obtain ⟨s, rfl, hs⟩ := shape_str exprTy.str h1
  exact ⟨s, hs, rfl⟩
set_option maxRecDepth 100000 in
theorem lawG {H : Type} {enc : TypeId × Value → H} {f : FuncId} {fn : Func} {s : ChangeSpec} {W : World} {base : Nat} {args : Array Value} {ds gs : List (DataW H)} {before : List MemPlace}
    (hpar : fn.params.toList.all (goodT.contains ·) = true) (hres : fn.resultTypes = #[4]) (hvars : s.vars = []) (hfn : ∀ ds : List (DataW H), ds.length = fn.params.toList.length → s.fn H ds = { results := [.lit (.bool true)], args := ds })
    (hval : ∀ (j : Nat) t v, fn.params[j]? = some t → args[j]? = some v → Value.okWide Tryz.prog W .any base t v)
    (hW : DataW.Whole enc Tryz.prog fn.params.toList s.vars false W args.toList ds gs before) (hk : Rows.uptoSmall H (ds ++ gs) = true)
    (law : ∀ xs, goods Good fn.params.toList xs → acl CtxL f xs A00 = some (.d (.bool true), A00)) :
    Calls Tryz.prog f args W fun e W' => ∃ v, e = .returned v ∧ s.post enc Tryz.prog fn false true false false W args v W' := by
  have hT : ∀ t ∈ fn.params.toList, t ∈ goodT := fun t ht => by
    have := List.all_eq_true.1 hpar t ht
    exact List.contains_iff_mem.1 this
  have hsz : Rows.uptoBulkAll (ds ++ gs) ≤ 1048576 := by simpa [Rows.uptoSmall] using hk
  exact lawN (c := CtxL) rfl ctxMixed ctxOk laid (fun t ht => by
      have : goodT.all (fun t => Tryz.prog.readableRec t && decide (t < Tryz.prog.types.size)) = true := by kernel_rfl
      have := List.all_eq_true.1 this t (hT t ht)
      simpa using this) hT hres Tryz.underlying4 (by kernel_rfl) hvars hfn hval hW
    (fun d hd => Nat.le_trans (bulk_mem (List.mem_append_left _ hd)) hsz) good_rd law
end Go.Proofs.YtjmghomnbmbjnaaGreat
