/- ast.ValidExpr answers every expression as the reference does: clockworklaw08.AstChecksExprs returns true. Condition: what it reads is of bulk at most 1048576. -/
import Derived.Test.YtfoibmfocmjmdaaRows
import Derived.Test.YtfoibmfocmjmdaaChecked
import Derived.JoinedCond
import Derived.Test.YtfoibmfocmjmdaaLawBool
import Derived.Test.YtfoibmfocmjmdaaAst3
set_option linter.unusedVariables false
set_option linter.unusedSimpArgs false
set_option linter.all false
set_option linter.deprecated false
namespace Go.Proofs.Ytfoibmfocmjmdaa.astChecksExprs
open Go.ChangeShapes Go.WideShapes Go.ChangeAt Go.RowKit
open Go.Abs
set_option maxHeartbeats 0 in
set_option maxRecDepth 100000 in
theorem closed : joinedFacts Try.prog 4 Try.f4 (Rows.OpenSpec.upto Rows.astChecksExprsSpec).bare Rows.astChecksExprsUptoRow = true := by
  unfold joinedFacts
  repeat' (with_reducible refine and2 ?_ ?_)
  all_goals as_aux_lemma => kernel_rfl

theorem bulk_mem {H : Type} : ∀ {l : List (DataW H)} {d : DataW H}, d ∈ l → Rows.uptoBulk d ≤ Rows.uptoBulkAll l
  | [], _, h => by cases h
  | x :: l, d, h => by
    unfold Rows.uptoBulkAll
    rcases List.mem_cons.1 h with rfl | h
    · omega
    · have := bulk_mem h; omega
theorem bulk_pos {H : Type} (d : DataW H) : 1 ≤ Rows.uptoBulk d := by
  unfold Rows.uptoBulk
  split <;> omega
theorem bulk_len {H : Type} : ∀ (l : List (DataW H)), l.length ≤ Rows.uptoBulkAll l
  | [] => Nat.zero_le _
  | x :: l => by
    have h1 := bulk_pos x
    have h2 := bulk_len l
    unfold Rows.uptoBulkAll
    simp
    omega
theorem bulk {H : Type} : Bulk (Rows.uptoBulk (H := H)) where
  str s := by unfold Rows.uptoBulk; simp
  agg l d h := by
    have := bulk_mem h
    have e : Rows.uptoBulk (.agg l) = Rows.uptoBulkAll l + 1 := by rw [Rows.uptoBulk]
    omega
  len l sp := by
    have := bulk_len l
    have e : Rows.uptoBulk (.slice l sp) = Rows.uptoBulkAll l + Rows.uptoBulkAll sp + 1 := by rw [Rows.uptoBulk]
    omega
  elem l sp d h := by
    have := bulk_mem h
    have e : Rows.uptoBulk (.slice l sp) = Rows.uptoBulkAll l + Rows.uptoBulkAll sp + 1 := by rw [Rows.uptoBulk]
    omega
theorem exprTy : ExprTy Try.prog 27 3 2 9 25 where
  e := ⟨_, Try.underlying27, rfl⟩
  int := Try.underlying3
  i := Try.underlying2
  str := Try.underlying9
  es := Try.underlying25
  ce := by kernel_rfl
  cint := by kernel_rfl
  ci := by kernel_rfl
  cstr := by kernel_rfl
  ces := by kernel_rfl
theorem plan : planT Try.prog [27, 3, 2, 9, 25] = true := by kernel_rfl
theorem laid : laidOutB Try.prog = true := by kernel_rfl

set_option maxRecDepth 100000 in
theorem contract (H : Type) (enc : TypeId × Value → H) (W : World) (base : Nat) (args : Array Value) (ds gs : List (DataW H)) (before : List MemPlace)
    (hval : ∀ (j : Nat) t v, Try.f4.params[j]? = some t → args[j]? = some v → Value.okWide Try.prog W .any base t v)
    (hW : DataW.Whole enc Try.prog Try.f4.params.toList Rows.astChecksExprsSpec.vars false W args.toList ds gs before) (hk : Rows.uptoSmall H (ds ++ gs) = true) :
    Calls Try.prog 4 args W fun e W' => ∃ v, e = .returned v ∧ Rows.astChecksExprsSpec.post enc Try.prog Try.f4 false true false false W args v W' := by
  have hW' := hW
  obtain ⟨p, q, hA0, hV, rfl, hfz, hnd⟩ := hW
  have hA : DataW.TrodAll enc Try.prog W 0 (fun _ => true) true Try.f4.params.toList args.toList ds p := hA0
  rw [Try.params4] at hA hval
  obtain ⟨v0, vs0, d0, ds0, p0, q0, hargs, rfl, rfl, h0, r0⟩ := trodAll_cons hA
  obtain ⟨rfl, rfl, rfl⟩ := trodAll_nil r0
  obtain rfl : args = #[v0] := by cases args; simp_all
  obtain ⟨rfl, rfl⟩ := trodVars_none hV
  have hsz : Rows.uptoBulkAll [d0] ≤ 1048576 := by simpa [Rows.uptoSmall] using hk
  have hw := hval 0 27 v0 rfl rfl
  unfold Value.okWide at hw
  rw [Try.underlying27] at hw
  obtain ⟨cs, rfl, -, -⟩ := hw
  obtain ⟨n, hn⟩ := h0
  obtain ⟨es, hes, hsh⟩ := read (N := 1048576) plan bulk n 27 cs.toList _ (by decide) hn (Nat.le_trans (bulk_mem (List.mem_cons_self ..)) hsz)
  obtain ⟨e, hok, rfl⟩ := readE exprTy (by decide) n es hsh
  rw [E.row_eq] at hes
  exact law_post laid (by rw [Try.params4]; intro t ht; simp at ht; subst ht; exact ⟨by kernel_rfl, of_decide_eq_true (by kernel_rfl)⟩) rfl rfl Try.underlying4 (by kernel_rfl) hW' rfl
    (call_law (c := C) (f := 4) mixed (noext fun _ => rfl) (lawChecks e hok) (vs := [.agg cs]) ⟨rfl, fun i x v h1 h2 => by
      match i with
      | 0 => simp at h1 h2; subst h1; subst h2; exact rel_agg hes
      | i + 1 => simp at h1⟩)

set_option maxRecDepth 100000 in
theorem lifted (os : Os) (started : os.Started) (H : Type) (enc : TypeId × Value → H) (F : Stop.Interp) :
    ReturnsInHanded {} Try.checked os 4 .any ((Rows.OpenSpec.upto Rows.astChecksExprsSpec).pre6 enc Try.prog Try.f4 Rows.astChecksExprsUptoRow.domain false) (((Rows.OpenSpec.upto Rows.astChecksExprsSpec).at F).post enc Try.prog Try.f4 false true false false) := by
  refine returnsInHanded_of_cond (C := Try.checked) (s := Rows.OpenSpec.upto Rows.astChecksExprsSpec) (k := Rows.uptoSmall) rfl own started (by kernel_rfl) Try.func4
    (OpenSpec.witness (enc := enc) (C := Try.checked) (s := Rows.OpenSpec.upto Rows.astChecksExprsSpec) (k := Rows.uptoSmall) rfl false ⟨#[], #[.agg #[.int .i64 0, .int .i64 0, .string ⟨#[]⟩, .slice none 0 0]], []⟩ 8 (by kernel_rfl) (by kernel_rfl) (by kernel_rfl)
      (x := ([.agg [.lit (.int .i64 0), .lit (.int .i64 0), .lit (.string []), .nil]], [], [])) (by kernel_rfl) rfl (by kernel_rfl)) ?_
  intro W base args ds gs before hval hW _ hk _
  exact contract H enc W base args ds gs before hval hW hk

theorem proved : Rows.AstChecksExprsUptoSaid :=
  OpenClaim.holds_of_cond 4 Try.f4 rfl rfl rfl rfl rfl rfl rfl ⟨rfl, rfl, rfl, rfl, rfl⟩ rfl rfl rfl rfl rfl (by kernel_rfl) Try.func4 closed
    (of_decide_eq_true (by kernel_rfl)) (by unfold Func.isWrapper; first | (rw [if_pos (by decide +kernel)]; kernel_rfl) | (rw [if_neg (by decide +kernel)]; exact ⟨rfl, rfl⟩))
    (fun os started H enc _ F => lifted os started H enc F)
end Go.Proofs.Ytfoibmfocmjmdaa.astChecksExprs
