/- The counts of an expression and of a statement alone, on the reference's side. -/
import Derived.Test.YtjmghomnbmbjnaaGreatSeatV
import Derived.Test.YtjmghomnbmbjnaaGreatSeatW
set_option linter.unusedVariables false
set_option linter.unusedSimpArgs false
set_option linter.all false
set_option linter.deprecated false
set_option linter.all false
namespace Go.Proofs.YtjmghomnbmbjnaaGreat
open Go.Abs
attribute [local congr] ite_congr
set_option maxRecDepth 10000
end Go.Proofs.YtjmghomnbmbjnaaGreat
set_option linter.all false
namespace Go.Proofs.YtjmghomnbmbjnaaGreat
open Go.Abs
attribute [local congr] ite_congr
set_option maxRecDepth 10000
end Go.Proofs.YtjmghomnbmbjnaaGreat
