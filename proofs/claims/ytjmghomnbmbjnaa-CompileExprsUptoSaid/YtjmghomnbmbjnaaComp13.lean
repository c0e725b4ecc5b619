/- The code of an expression: the law, as the claim needs it. -/
import Derived.Test.YtjmghomnbmbjnaaComp12
import Derived.Test.YtjmghomnbmbjnaaSeatN
set_option linter.unusedVariables false
set_option linter.unusedSimpArgs false
set_option linter.all false
set_option linter.deprecated false
set_option linter.all false
namespace Go.Proofs.Ytjmghomnbmbjnaa
open Go.Abs
-- CTX D
set_option maxRecDepth 10000
mutual
theorem vis_weight : ∀ (e : E) (r : Bool), (visE e r).length ≤ wRow e.row
  | .mk op n s args, r => by
    have := viss_weight args
    rw [E.row_mk]
    simp only [visE, List.length_cons, wRow, wD]
    omega
theorem viss_weight : ∀ (l : List E), (visEs l).length ≤ wRows (l.map E.row)
  | [] => by simp [visEs]
  | x :: l => by
    have h1 := vis_weight x false
    have h2 := viss_weight l
    simp only [visEs, List.length_append, List.map_cons, wRows]
    omega
end
theorem lawCompileExprsC (e : E) (S : List Bytes) (h : e.Ok ∧ wRow e.row ≤ 1048576) (hS : S.length ≤ 1048576 ∧ ∀ s ∈ S, s.length ≤ 1048576) : acl D 3 [E.av e, .d (.slice (S.map sRow1))] A00 = some (.d (.bool true), A00) := by
  have h1 := vis_weight e false
  exact lawCompileExprs e S h.1 (by have := h.2; omega) (by have := hS.1; omega)
end Go.Proofs.Ytjmghomnbmbjnaa
