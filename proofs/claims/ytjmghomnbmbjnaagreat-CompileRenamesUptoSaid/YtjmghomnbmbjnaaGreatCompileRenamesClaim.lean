/- Renaming a variable to a fresh name does not change the code : clockworklaw17.CompileRenames returns true. Condition: what it reads is of bulk at most 1048576. -/
import Derived.Test.YtjmghomnbmbjnaaGreatSeatN
import Derived.Test.YtjmghomnbmbjnaaGreatSeatRA
set_option linter.unusedVariables false
set_option linter.unusedSimpArgs false
set_option linter.all false
set_option linter.deprecated false
set_option linter.all false
namespace Go.Proofs.YtjmghomnbmbjnaaGreat.compileRenames
open Go.ChangeShapes Go.WideShapes Go.ChangeAt Go.RowKit
open Go.Abs
set_option maxHeartbeats 0 in
set_option maxRecDepth 100000 in
theorem closed : joinedFacts Tryz.prog 5 Tryz.f5 (Rows.OpenSpec.upto Rows.compileRenamesSpec).bare Rows.compileRenamesUptoRow = true := by
  unfold joinedFacts
  repeat' (with_reducible refine and2 ?_ ?_)
  all_goals as_aux_lemma => kernel_rfl

set_option maxRecDepth 100000 in
theorem lifted (os : Os) (started : os.Started) (H : Type) (enc : TypeId × Value → H) (F : Stop.Interp) :
    ReturnsInHanded {} Tryz.checked os 5 .any ((Rows.OpenSpec.upto Rows.compileRenamesSpec).pre6 enc Tryz.prog Tryz.f5 Rows.compileRenamesUptoRow.domain false) (((Rows.OpenSpec.upto Rows.compileRenamesSpec).at F).post enc Tryz.prog Tryz.f5 false true false false) := by
  refine returnsInHanded_of_cond (C := Tryz.checked) (s := Rows.OpenSpec.upto Rows.compileRenamesSpec) (k := Rows.uptoSmall) rfl own started (by kernel_rfl) Tryz.func5
    (OpenSpec.witness (enc := enc) (C := Tryz.checked) (s := Rows.OpenSpec.upto Rows.compileRenamesSpec) (k := Rows.uptoSmall) rfl false ⟨#[], #[.agg #[.string ⟨#[]⟩, .slice none 0 0, .slice none 0 0], .string ⟨#[]⟩, .string ⟨#[]⟩], []⟩ 8 (by kernel_rfl) (by kernel_rfl) (by kernel_rfl)
      (x := ([.agg [.lit (.string []), .nil, .nil], .lit (.string []), .lit (.string [])], [], [])) (by kernel_rfl) rfl (by kernel_rfl)) ?_
  intro W base args ds gs before hval hW _ hk _
  exact lawG (s := Rows.compileRenamesSpec) (by rw [Tryz.params5]; rfl) rfl rfl (by
      rw [Tryz.params5]
      intro ds hl
      match ds, hl with
      | [x0, x1, x2], _ => rfl) hval hW hk (by
      rw [Tryz.params5]
      intro xs hg
      match xs, hg with
      | [x0, x1, x2], ⟨h0, h1, h2, _⟩ => exact (by
        obtain ⟨p0, k0, rfl⟩ := goodProc h0
        obtain ⟨p1, k1, rfl⟩ := goodStr h1
        obtain ⟨p2, k2, rfl⟩ := goodStr h2
        exact lawCompileRenames p0 p1 p2 k0 k1 k2))

theorem proved : Rows.CompileRenamesUptoSaid :=
  OpenClaim.holds_of_cond 5 Tryz.f5 rfl rfl rfl rfl rfl rfl rfl ⟨rfl, rfl, rfl, rfl, rfl⟩ rfl rfl rfl rfl rfl (by kernel_rfl) Tryz.func5 closed
    (of_decide_eq_true (by kernel_rfl)) (by unfold Func.isWrapper; first | (rw [if_pos (by decide +kernel)]; kernel_rfl) | (rw [if_neg (by decide +kernel)]; exact ⟨rfl, rfl⟩))
    (fun os started H enc _ F => lifted os started H enc F)
end Go.Proofs.YtjmghomnbmbjnaaGreat.compileRenames
