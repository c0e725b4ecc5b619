/- Compiled code counts one step for each statement and one more for each loop, ends with OEnd, and has the parameters and slots of the procedure : clockworklaw17.CompileTicks returns true. Condition: what it reads is of bulk at most 1048576. -/
import Derived.Test.YtjmghomnbmbjnaaSeatN
import Derived.Test.YtjmghomnbmbjnaaSeatZ
set_option linter.unusedVariables false
set_option linter.unusedSimpArgs false
set_option linter.all false
set_option linter.deprecated false
set_option linter.all false
namespace Go.Proofs.Ytjmghomnbmbjnaa.compileTicks
open Go.ChangeShapes Go.WideShapes Go.ChangeAt Go.RowKit
open Go.Abs
set_option maxHeartbeats 0 in
set_option maxRecDepth 100000 in
theorem closed : joinedFacts Try.prog 4 Try.f4 (Rows.OpenSpec.upto Rows.compileTicksSpec).bare Rows.compileTicksUptoRow = true := by
  unfold joinedFacts
  repeat' (with_reducible refine and2 ?_ ?_)
  all_goals as_aux_lemma => kernel_rfl

set_option maxRecDepth 100000 in
theorem lifted (os : Os) (started : os.Started) (H : Type) (enc : TypeId × Value → H) (F : Stop.Interp) :
    ReturnsInHanded {} Try.checked os 4 .any ((Rows.OpenSpec.upto Rows.compileTicksSpec).pre6 enc Try.prog Try.f4 Rows.compileTicksUptoRow.domain false) (((Rows.OpenSpec.upto Rows.compileTicksSpec).at F).post enc Try.prog Try.f4 false true false false) := by
  refine returnsInHanded_of_cond (C := Try.checked) (s := Rows.OpenSpec.upto Rows.compileTicksSpec) (k := Rows.uptoSmall) rfl own started (by kernel_rfl) Try.func4
    (OpenSpec.witness (enc := enc) (C := Try.checked) (s := Rows.OpenSpec.upto Rows.compileTicksSpec) (k := Rows.uptoSmall) rfl false ⟨#[], #[.agg #[.string ⟨#[]⟩, .slice none 0 0, .slice none 0 0]], []⟩ 8 (by kernel_rfl) (by kernel_rfl) (by kernel_rfl)
      (x := ([.agg [.lit (.string []), .nil, .nil]], [], [])) (by kernel_rfl) rfl (by kernel_rfl)) ?_
  intro W base args ds gs before hval hW _ hk _
  exact lawG (s := Rows.compileTicksSpec) (by rw [Try.params4]; rfl) rfl rfl (by
      rw [Try.params4]
      intro ds hl
      match ds, hl with
      | [x0], _ => rfl) hval hW hk (by
      rw [Try.params4]
      intro xs hg
      match xs, hg with
      | [x0], ⟨h0, _⟩ => exact (by
        obtain ⟨p0, k0, rfl⟩ := goodProc h0
        exact lawCompileTicks p0 k0))

theorem proved : Rows.CompileTicksUptoSaid :=
  OpenClaim.holds_of_cond 4 Try.f4 rfl rfl rfl rfl rfl rfl rfl ⟨rfl, rfl, rfl, rfl, rfl⟩ rfl rfl rfl rfl rfl (by kernel_rfl) Try.func4 closed
    (of_decide_eq_true (by kernel_rfl)) (by unfold Func.isWrapper; first | (rw [if_pos (by decide +kernel)]; kernel_rfl) | (rw [if_neg (by decide +kernel)]; exact ⟨rfl, rfl⟩))
    (fun os started H enc _ F => lifted os started H enc F)
end Go.Proofs.Ytjmghomnbmbjnaa.compileTicks
