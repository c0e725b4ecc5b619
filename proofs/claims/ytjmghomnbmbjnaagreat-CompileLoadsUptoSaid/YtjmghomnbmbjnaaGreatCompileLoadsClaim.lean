/- Every slot that the code loads or stores is the slot of a variable of the procedure or the end of a loop : clockworklaw17.CompileLoads returns true. Condition: what it reads is of bulk at most 1048576. -/
import Derived.Test.YtjmghomnbmbjnaaGreatSeatN
import Derived.Test.YtjmghomnbmbjnaaGreatSeatLA
set_option linter.unusedVariables false
set_option linter.unusedSimpArgs false
set_option linter.all false
set_option linter.deprecated false
set_option linter.all false
namespace Go.Proofs.YtjmghomnbmbjnaaGreat.compileLoads
open Go.ChangeShapes Go.WideShapes Go.ChangeAt Go.RowKit
open Go.Abs
set_option maxHeartbeats 0 in
set_option maxRecDepth 100000 in
theorem closed : joinedFacts Tryz.prog 6 Tryz.f6 (Rows.OpenSpec.upto Rows.compileLoadsSpec).bare Rows.compileLoadsUptoRow = true := by
  unfold joinedFacts
  repeat' (with_reducible refine and2 ?_ ?_)
  all_goals as_aux_lemma => kernel_rfl

set_option maxRecDepth 100000 in
theorem lifted (os : Os) (started : os.Started) (H : Type) (enc : TypeId × Value → H) (F : Stop.Interp) :
    ReturnsInHanded {} Tryz.checked os 6 .any ((Rows.OpenSpec.upto Rows.compileLoadsSpec).pre6 enc Tryz.prog Tryz.f6 Rows.compileLoadsUptoRow.domain false) (((Rows.OpenSpec.upto Rows.compileLoadsSpec).at F).post enc Tryz.prog Tryz.f6 false true false false) := by
  refine returnsInHanded_of_cond (C := Tryz.checked) (s := Rows.OpenSpec.upto Rows.compileLoadsSpec) (k := Rows.uptoSmall) rfl own started (by kernel_rfl) Tryz.func6
    (OpenSpec.witness (enc := enc) (C := Tryz.checked) (s := Rows.OpenSpec.upto Rows.compileLoadsSpec) (k := Rows.uptoSmall) rfl false ⟨#[], #[.agg #[.string ⟨#[]⟩, .slice none 0 0, .slice none 0 0]], []⟩ 8 (by kernel_rfl) (by kernel_rfl) (by kernel_rfl)
      (x := ([.agg [.lit (.string []), .nil, .nil]], [], [])) (by kernel_rfl) rfl (by kernel_rfl)) ?_
  intro W base args ds gs before hval hW _ hk _
  exact lawG (s := Rows.compileLoadsSpec) (by rw [Tryz.params6]; rfl) rfl rfl (by
      rw [Tryz.params6]
      intro ds hl
      match ds, hl with
      | [x0], _ => rfl) hval hW hk (by
      rw [Tryz.params6]
      intro xs hg
      match xs, hg with
      | [x0], ⟨h0, _⟩ => exact (by
        obtain ⟨p0, k0, rfl⟩ := goodProc h0
        exact lawCompileLoads p0 k0))

theorem proved : Rows.CompileLoadsUptoSaid :=
  OpenClaim.holds_of_cond 6 Tryz.f6 rfl rfl rfl rfl rfl rfl rfl ⟨rfl, rfl, rfl, rfl, rfl⟩ rfl rfl rfl rfl rfl (by kernel_rfl) Tryz.func6 closed
    (of_decide_eq_true (by kernel_rfl)) (by unfold Func.isWrapper; first | (rw [if_pos (by decide +kernel)]; kernel_rfl) | (rw [if_neg (by decide +kernel)]; exact ⟨rfl, rfl⟩))
    (fun os started H enc _ F => lifted os started H enc F)
end Go.Proofs.YtjmghomnbmbjnaaGreat.compileLoads
