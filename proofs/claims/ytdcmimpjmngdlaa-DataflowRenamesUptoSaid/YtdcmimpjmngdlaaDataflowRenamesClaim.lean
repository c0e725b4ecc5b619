/- Renaming a variable renames it in the result : clockworklaw14.DataflowRenames returns true. Condition: what it reads is of bulk at most 1048576. -/
import Derived.Test.YtdcmimpjmngdlaaSeatN
import Derived.Test.YtdcmimpjmngdlaaFlow16
set_option linter.unusedVariables false
set_option linter.unusedSimpArgs false
set_option linter.all false
set_option linter.deprecated false
set_option linter.all false
namespace Go.Proofs.Ytdcmimpjmngdlaa.dataflowRenames
open Go.ChangeShapes Go.WideShapes Go.ChangeAt Go.RowKit
open Go.Abs
set_option maxHeartbeats 0 in
set_option maxRecDepth 100000 in
theorem closed : joinedFacts Try.prog 6 Try.f6 (Rows.OpenSpec.upto Rows.dataflowRenamesSpec).bare Rows.dataflowRenamesUptoRow = true := by
  unfold joinedFacts
  repeat' (with_reducible refine and2 ?_ ?_)
  all_goals as_aux_lemma => kernel_rfl

set_option maxRecDepth 100000 in
theorem lifted (os : Os) (started : os.Started) (H : Type) (enc : TypeId × Value → H) (F : Stop.Interp) :
    ReturnsInHanded {} Try.checked os 6 .any ((Rows.OpenSpec.upto Rows.dataflowRenamesSpec).pre6 enc Try.prog Try.f6 Rows.dataflowRenamesUptoRow.domain false) (((Rows.OpenSpec.upto Rows.dataflowRenamesSpec).at F).post enc Try.prog Try.f6 false true false false) := by
  refine returnsInHanded_of_cond (C := Try.checked) (s := Rows.OpenSpec.upto Rows.dataflowRenamesSpec) (k := Rows.uptoSmall) rfl own started (by kernel_rfl) Try.func6
    (OpenSpec.witness (enc := enc) (C := Try.checked) (s := Rows.OpenSpec.upto Rows.dataflowRenamesSpec) (k := Rows.uptoSmall) rfl false ⟨#[], #[.agg #[.string ⟨#[]⟩, .slice none 0 0, .slice none 0 0], .string ⟨#[]⟩, .string ⟨#[]⟩], []⟩ 8 (by kernel_rfl) (by kernel_rfl) (by kernel_rfl)
      (x := ([.agg [.lit (.string []), .nil, .nil], .lit (.string []), .lit (.string [])], [], [])) (by kernel_rfl) rfl (by kernel_rfl)) ?_
  intro W base args ds gs before hval hW _ hk _
  exact lawG (s := Rows.dataflowRenamesSpec) (by rw [Try.params6]; rfl) rfl rfl (by
      rw [Try.params6]
      intro ds hl
      match ds, hl with
      | [x0, x1, x2], _ => rfl) hval hW hk (by
      rw [Try.params6]
      intro xs hg
      match xs, hg with
      | [x0, x1, x2], ⟨h0, h1, h2, _⟩ => exact (by
        obtain ⟨p0, k0, rfl⟩ := goodProc h0
        obtain ⟨p1, k1, rfl⟩ := goodStr h1
        obtain ⟨p2, k2, rfl⟩ := goodStr h2
        exact lawDataflowRenames p0 p1 p2 k0 k1 k2))

theorem proved : Rows.DataflowRenamesUptoSaid :=
  OpenClaim.holds_of_cond 6 Try.f6 rfl rfl rfl rfl rfl rfl rfl ⟨rfl, rfl, rfl, rfl, rfl⟩ rfl rfl rfl rfl rfl (by kernel_rfl) Try.func6 closed
    (of_decide_eq_true (by kernel_rfl)) (by unfold Func.isWrapper; first | (rw [if_pos (by decide +kernel)]; kernel_rfl) | (rw [if_neg (by decide +kernel)]; exact ⟨rfl, rfl⟩))
    (fun os started H enc _ F => lifted os started H enc F)
end Go.Proofs.Ytdcmimpjmngdlaa.dataflowRenames
