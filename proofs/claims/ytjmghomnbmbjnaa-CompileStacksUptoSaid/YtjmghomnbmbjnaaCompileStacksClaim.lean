/- The code of an expression leaves one value on the stack : clockworklaw17.CompileStacks returns true. Condition: what it reads is of bulk at most 1048576. -/
import Derived.Test.YtjmghomnbmbjnaaSeatN
import Derived.Test.YtjmghomnbmbjnaaSeatX
set_option linter.unusedVariables false
set_option linter.unusedSimpArgs false
set_option linter.all false
set_option linter.deprecated false
set_option linter.all false
namespace Go.Proofs.Ytjmghomnbmbjnaa.compileStacks
open Go.ChangeShapes Go.WideShapes Go.ChangeAt Go.RowKit
open Go.Abs
set_option maxHeartbeats 0 in
set_option maxRecDepth 100000 in
theorem closed : joinedFacts Try.prog 5 Try.f5 (Rows.OpenSpec.upto Rows.compileStacksSpec).bare Rows.compileStacksUptoRow = true := by
  unfold joinedFacts
  repeat' (with_reducible refine and2 ?_ ?_)
  all_goals as_aux_lemma => kernel_rfl

set_option maxRecDepth 100000 in
theorem lifted (os : Os) (started : os.Started) (H : Type) (enc : TypeId × Value → H) (F : Stop.Interp) :
    ReturnsInHanded {} Try.checked os 5 .any ((Rows.OpenSpec.upto Rows.compileStacksSpec).pre6 enc Try.prog Try.f5 Rows.compileStacksUptoRow.domain false) (((Rows.OpenSpec.upto Rows.compileStacksSpec).at F).post enc Try.prog Try.f5 false true false false) := by
  refine returnsInHanded_of_cond (C := Try.checked) (s := Rows.OpenSpec.upto Rows.compileStacksSpec) (k := Rows.uptoSmall) rfl own started (by kernel_rfl) Try.func5
    (OpenSpec.witness (enc := enc) (C := Try.checked) (s := Rows.OpenSpec.upto Rows.compileStacksSpec) (k := Rows.uptoSmall) rfl false ⟨#[], #[.agg #[.int .i64 0, .int .i64 0, .string ⟨#[]⟩, .slice none 0 0], .slice none 0 0], []⟩ 8 (by kernel_rfl) (by kernel_rfl) (by kernel_rfl)
      (x := ([.agg [.lit (.int .i64 0), .lit (.int .i64 0), .lit (.string []), .nil], .nil], [], [])) (by kernel_rfl) rfl (by kernel_rfl)) ?_
  intro W base args ds gs before hval hW _ hk _
  exact lawG (s := Rows.compileStacksSpec) (by rw [Try.params5]; rfl) rfl rfl (by
      rw [Try.params5]
      intro ds hl
      match ds, hl with
      | [x0, x1], _ => rfl) hval hW hk (by
      rw [Try.params5]
      intro xs hg
      match xs, hg with
      | [x0, x1], ⟨h0, h1, _⟩ => exact (by
        obtain ⟨p0, k0, rfl⟩ := goodExpr h0
        obtain ⟨p1, k1, rfl⟩ := goodStrs h1
        exact lawCompileStacksC p0 p1 k0 k1))

theorem proved : Rows.CompileStacksUptoSaid :=
  OpenClaim.holds_of_cond 5 Try.f5 rfl rfl rfl rfl rfl rfl rfl ⟨rfl, rfl, rfl, rfl, rfl⟩ rfl rfl rfl rfl rfl (by kernel_rfl) Try.func5 closed
    (of_decide_eq_true (by kernel_rfl)) (by unfold Func.isWrapper; first | (rw [if_pos (by decide +kernel)]; kernel_rfl) | (rw [if_neg (by decide +kernel)]; exact ⟨rfl, rfl⟩))
    (fun os started H enc _ F => lifted os started H enc F)
end Go.Proofs.Ytjmghomnbmbjnaa.compileStacks
