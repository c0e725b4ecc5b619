/- How the arguments of the laws are read: sizes, types. -/
import Derived.Test.YtfoibmfocmjmdaaRows
import Derived.Test.YtfoibmfocmjmdaaChecked
import Derived.JoinedCond
import Derived.Test.YtfoibmfocmjmdaaLawBool
import Derived.Test.YtfoibmfocmjmdaaWorks
set_option linter.all false
set_option linter.unusedVariables false
set_option linter.unusedSimpArgs false
set_option linter.all false
set_option linter.deprecated false
namespace Go.Proofs.Ytfoibmfocmjmdaa
open Go.ChangeShapes Go.WideShapes Go.ChangeAt Go.RowKit
open Go.Abs
theorem bulk_mem {H : Type} : ∀ {l : List (DataW H)} {d : DataW H}, d ∈ l → Rows.uptoBulk d ≤ Rows.uptoBulkAll l
  | [], _, h => by cases h
  | x :: l, d, h => by
    unfold Rows.uptoBulkAll
    rcases List.mem_cons.1 h with rfl | h
    · omega
    · have := bulk_mem h; omega
theorem bulk_pos {H : Type} (d : DataW H) : 1 ≤ Rows.uptoBulk d := by
  unfold Rows.uptoBulk
  split <;> omega
theorem bulk_len {H : Type} : ∀ (l : List (DataW H)), l.length ≤ Rows.uptoBulkAll l
  | [] => Nat.zero_le _
  | x :: l => by
    have h1 := bulk_pos x
    have h2 := bulk_len l
    unfold Rows.uptoBulkAll
    simp
    omega
theorem bulk {H : Type} : Bulk (Rows.uptoBulk (H := H)) where
  str s := by unfold Rows.uptoBulk; simp
  agg l d h := by
    have := bulk_mem h
    have e : Rows.uptoBulk (.agg l) = Rows.uptoBulkAll l + 1 := by rw [Rows.uptoBulk]
    omega
  len l sp := by
    have := bulk_len l
    have e : Rows.uptoBulk (.slice l sp) = Rows.uptoBulkAll l + Rows.uptoBulkAll sp + 1 := by rw [Rows.uptoBulk]
    omega
  elem l sp d h := by
    have := bulk_mem h
    have e : Rows.uptoBulk (.slice l sp) = Rows.uptoBulkAll l + Rows.uptoBulkAll sp + 1 := by rw [Rows.uptoBulk]
    omega
theorem exprTy : ExprTy Try.prog 27 3 2 9 25 where
  e := ⟨_, Try.underlying27, rfl⟩
  int := Try.underlying3
  i := Try.underlying2
  str := Try.underlying9
  es := Try.underlying25
  ce := by kernel_rfl
  cint := by kernel_rfl
  ci := by kernel_rfl
  cstr := by kernel_rfl
  ces := by kernel_rfl
theorem procTy : ProcTy Try.prog 35 52 32 54 27 3 2 9 25 33 where
  toExprTy := exprTy
  s := ⟨_, Try.underlying54, rfl⟩
  ss := Try.underlying33
  cs := by kernel_rfl
  css := by kernel_rfl
  p := ⟨_, Try.underlying35, rfl⟩
  pm := ⟨_, Try.underlying52, rfl⟩
  pms := Try.underlying32
  cp := by kernel_rfl
  cpm := by kernel_rfl
  cpms := by kernel_rfl
def planL : List TypeId := [35, 52, 32, 54, 33, 27, 3, 2, 9, 25]
theorem plan : planT Try.prog planL = true := by kernel_rfl
theorem laid : laidOutB Try.prog = true := by kernel_rfl
set_option maxRecDepth 100000 in
/-- a procedure that comes in -/
theorem readProc {H : Type} {enc : TypeId × Value → H} {W : World} {base : Nat} {v : Value} {d : DataW H} {ps : List MemPlace} (hw : Value.okWide Try.prog W .any base 35 v)
    (h : DataW.Trod enc Try.prog W 0 (fun _ => true) true 35 v d ps) (hb : Rows.uptoBulk d ≤ 1048576) : ∃ p : Pr, p.Ok ∧ ∀ A, RelV W (gh0 W) A (.agg (p.row.map .d)) v := by
  unfold Value.okWide at hw
  rw [Try.underlying35] at hw
  obtain ⟨cs, rfl, -, -⟩ := hw
  obtain ⟨n, hn⟩ := h
  obtain ⟨es, hes, hsh⟩ := read (N := 1048576) plan bulk n 35 cs.toList _ (by decide) hn hb
  obtain ⟨e, hok, rfl⟩ := readP procTy (by decide) n es hsh
  exact ⟨e, hok, fun A => rel_agg hes⟩
theorem readStr {H : Type} {enc : TypeId × Value → H} {W : World} {v : Value} {d : DataW H} {ps : List MemPlace}
    (h : DataW.Trod enc Try.prog W 0 (fun _ => true) true 9 v d ps) (hb : Rows.uptoBulk d ≤ 1048576) (hv : ∀ cs, v ≠ .agg cs) : ∃ s : Bytes, s.length ≤ 1048576 ∧ ∀ A, RelV W (gh0 W) A (.d (.str s)) v := by
  obtain ⟨n, hn⟩ := h
  obtain ⟨s, hs, he, _⟩ := DataW.trod_string Try.underlying9 hn
  cases he
  have hb' : s.data.toList.length ≤ 1048576 := Nat.le_trans (bulk.str _) hb
  refine ⟨s.data.toList, hb', fun A => ?_⟩
  have : v = .string s := by
    cases v with
    | agg cs => exact absurd rfl (hv cs)
    | _ => simpa [Value.cells] using hs
  rw [this]
  exact .d _ _ (.str s)
set_option maxRecDepth 100000 in
/-- one argument, a procedure: the call and what stands behind it -/
theorem law1 {H : Type} {enc : TypeId × Value → H} {f : FuncId} {fn : Func} {s : ChangeSpec} {W : World} {base : Nat} {args : Array Value} {ds gs : List (DataW H)} {before : List MemPlace}
    (hpar : fn.params = #[35]) (hres : fn.resultTypes = #[4]) (hvars : s.vars = []) (hfn : ∀ d : DataW H, s.fn H [d] = { results := [.lit (.bool true)], args := [d] })
    (hval : ∀ (j : Nat) t v, fn.params[j]? = some t → args[j]? = some v → Value.okWide Try.prog W .any base t v)
    (hW : DataW.Whole enc Try.prog fn.params.toList s.vars false W args.toList ds gs before) (hk : Rows.uptoSmall H (ds ++ gs) = true)
    (law : ∀ p : Pr, p.Ok → acl C f [.agg (p.row.map .d)] A00 = some (.d (.bool true), A00)) :
    Calls Try.prog f args W fun e W' => ∃ v, e = .returned v ∧ s.post enc Try.prog fn false true false false W args v W' := by
  have hW' := hW
  obtain ⟨p, q, hA, hV, rfl, hfz, hnd⟩ := hW
  rw [hpar] at hA hval
  rw [hvars] at hV
  obtain ⟨v0, vs0, d0, ds0, p0, q0, hargs, rfl, rfl, h0, r0⟩ := trodAll_cons hA
  obtain ⟨rfl, rfl, rfl⟩ := trodAll_nil r0
  obtain rfl : args = #[v0] := by cases args; simp_all
  obtain ⟨rfl, rfl⟩ := trodVars_none hV
  have hsz : Rows.uptoBulkAll [d0] ≤ 1048576 := by simpa [Rows.uptoSmall] using hk
  obtain ⟨e, hok, hrel⟩ := readProc (hval 0 35 v0 rfl rfl) h0 (Nat.le_trans (bulk_mem (List.mem_cons_self ..)) hsz)
  exact law_post laid (by rw [hpar]; intro t ht; simp at ht; subst ht; exact ⟨by kernel_rfl, of_decide_eq_true (by kernel_rfl)⟩) hvars hres Try.underlying4 (by kernel_rfl) hW' (hfn d0)
    (call_law (c := C) (f := f) mixed (noext fun _ => rfl) (law e hok) (vs := [v0]) ⟨rfl, fun i x v h1 h2 => by
      match i with
      | 0 => simp only [List.getElem?_cons_zero, Option.some.injEq] at h1 h2; subst h1; subst h2; exact hrel _
      | i + 1 => simp at h1⟩)
end Go.Proofs.Ytfoibmfocmjmdaa
