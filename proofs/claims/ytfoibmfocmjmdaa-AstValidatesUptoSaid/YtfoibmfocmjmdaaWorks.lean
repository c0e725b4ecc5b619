/- The closed example of the laws of chapter 8 runs. -/
import Derived.Test.YtfoibmfocmjmdaaFacts
set_option linter.unusedVariables false
set_option linter.unusedSimpArgs false
set_option linter.all false
set_option linter.deprecated false
namespace Go.Proofs.Ytfoibmfocmjmdaa
open Go.Abs
theorem works : acl C 13 [] A00 = some (.d (.bool true), A00) := bcl_sound (ok := okL.contains) okOf (n := 300) (by kernel_rfl)
theorem own : ownKnob Try.prog.godebug = none := by kernel_rfl
theorem mixed : C.P.follows .mixedOrders = true := by kernel_rfl
theorem and2 {a b : Bool} (h : a = true) (h' : b = true) : (a && b) = true := by rw [h, h']; rfl
end Go.Proofs.Ytfoibmfocmjmdaa
