/- The expressions of the statements of a checked procedure have the types that the statements require : clockworklaw11.TypesStatements returns true. Condition: what it reads is of bulk at most 1048576. -/
import Derived.Test.YthjmecciefihmaaReadArgs3
import Derived.Test.YthjmecciefihmaaSeatL
set_option linter.unusedVariables false
set_option linter.unusedSimpArgs false
set_option linter.all false
set_option linter.deprecated false
set_option linter.all false
namespace Go.Proofs.Ythjmecciefihmaa.typesStatements
open Go.ChangeShapes Go.WideShapes Go.ChangeAt Go.RowKit
open Go.Abs
set_option maxHeartbeats 0 in
set_option maxRecDepth 100000 in
theorem closed : joinedFacts Try.prog 10 Try.f10 (Rows.OpenSpec.upto Rows.typesStatementsSpec).bare Rows.typesStatementsUptoRow = true := by
  unfold joinedFacts
  repeat' (with_reducible refine and2 ?_ ?_)
  all_goals as_aux_lemma => kernel_rfl

set_option maxRecDepth 100000 in
theorem lifted (os : Os) (started : os.Started) (H : Type) (enc : TypeId × Value → H) (F : Stop.Interp) :
    ReturnsInHanded {} Try.checked os 10 .any ((Rows.OpenSpec.upto Rows.typesStatementsSpec).pre6 enc Try.prog Try.f10 Rows.typesStatementsUptoRow.domain false) (((Rows.OpenSpec.upto Rows.typesStatementsSpec).at F).post enc Try.prog Try.f10 false true false false) := by
  refine returnsInHanded_of_cond (C := Try.checked) (s := Rows.OpenSpec.upto Rows.typesStatementsSpec) (k := Rows.uptoSmall) rfl own started (by kernel_rfl) Try.func10
    (OpenSpec.witness (enc := enc) (C := Try.checked) (s := Rows.OpenSpec.upto Rows.typesStatementsSpec) (k := Rows.uptoSmall) rfl false ⟨#[], #[.agg #[.string ⟨#[]⟩, .slice none 0 0, .slice none 0 0]], []⟩ 8 (by kernel_rfl) (by kernel_rfl) (by kernel_rfl)
      (x := ([.agg [.lit (.string []), .nil, .nil]], [], [])) (by kernel_rfl) rfl (by kernel_rfl)) ?_
  intro W base args ds gs before hval hW _ hk _
  exact lawG (s := Rows.typesStatementsSpec) (by rw [Try.params10]; rfl) rfl rfl (by
      rw [Try.params10]
      intro ds hl
      match ds, hl with
      | [x0], _ => rfl) hval hW hk (by
      rw [Try.params10]
      intro xs hg
      match xs, hg with
      | [x0], ⟨h0, _⟩ => exact (by
        obtain ⟨p0, k0, rfl⟩ := goodProc h0
        exact lawTypesStatements p0 k0))

theorem proved : Rows.TypesStatementsUptoSaid :=
  OpenClaim.holds_of_cond 10 Try.f10 rfl rfl rfl rfl rfl rfl rfl ⟨rfl, rfl, rfl, rfl, rfl⟩ rfl rfl rfl rfl rfl (by kernel_rfl) Try.func10 closed
    (of_decide_eq_true (by kernel_rfl)) (by unfold Func.isWrapper; first | (rw [if_pos (by decide +kernel)]; kernel_rfl) | (rw [if_neg (by decide +kernel)]; exact ⟨rfl, rfl⟩))
    (fun os started H enc _ F => lifted os started H enc F)
end Go.Proofs.Ythjmecciefihmaa.typesStatements
