/-
  NARROWER THAN 'FOR EVERY INPUT', by the rows' own cells (each row's printed sentence says how): CompileExprs: loops · CompileTicks: loops · CompileStacks: loops.
  DERIVED. THE GIVEN ROWS OF THIS SEAT. 3 by the template 'for every input the law returns true; each argument reads behind the call as it read before'; 0 by the template 'total and deterministic' (their statements: YtjmghomnbmbjnaaTotals.lean).
  GIVEN WITH THE SEED: the statements are not yours to turn. If you find one false, say at which input.
  Laid BY PROGRAM, IN A SANDBOX (cutbox-rows.mjs): the forced cells as the released guide's own fill.sh prints them over the translation 1760fcbce135531e… (all of the seat's roots in one cut). By AI agents, Wed Nov 11 2026. No macro, syntax, notation, axiom, sorry.
-/
import Derived.Test.YtjmghomnbmbjnaaChecked
import GoSem.Claim
import GoSem.ClaimJoined
import GoSem.ClaimMapViews
import Derived.JoinedTies
import Derived.KernelRfl
namespace Go.Proofs.Ytjmghomnbmbjnaa
/- THE CELL 'sum', in the pinned program and in every row, IS THE sha256 OF THE DUMP (.gsa) THAT YtjmghomnbmbjnaaProg.lean LOADS. Nothing in Lean hashes anything: it is a label: what it is worth is what the hold of that sum in a sandbox is worth. -/
noncomputable def Try.pinned : Pinned := { name := "ytjmghomnbmbjnaa", sum := "1760fcbce135531e712090bff1e961fa9b1cb347e4ea941e742e10c906eb90bf", checked := Try.checked }
namespace Rows
def none {H : Type} : Left H := { results := [], args := [] }

/-- 'clockworklaw17.CompileExprs': WHATEVER THE INPUT: true; the input reads as it did. -/
def compileExprsSpec : ChangeSpec := { name := "compileExprs", fn := fun _ => fun
  | [d1, d2] => { results := [.lit (.bool true)], args := [d1, d2] }
  | _ => none }
def compileExprsRow : OpenClaim := { program := "ytjmghomnbmbjnaa", sum := "1760fcbce135531e712090bff1e961fa9b1cb347e4ea941e742e10c906eb90bf", func := "clockwork/clockworklaw17.CompileExprs", spec := "compileExprs", unfollowed := true, recurses := true, loops := true, apart := false }
def CompileExprsSaid : Prop := compileExprsRow.holds Try.pinned (OpenSpec.ofChange compileExprsSpec)

/-- ITS FALSE NEIGHBOUR: 'it returns false'. Refute it at one input. -/
def compileExprsWrong : ChangeSpec := { name := "compileExprs", fn := fun _ => fun
  | [d1, d2] => { results := [.lit (.bool false)], args := [d1, d2] }
  | _ => none }
def CompileExprsWrongFalsely : Prop := compileExprsRow.holds Try.pinned (OpenSpec.ofChange compileExprsWrong)

/-- 'clockworklaw17.CompileTicks': WHATEVER THE INPUT: true; the input reads as it did. -/
def compileTicksSpec : ChangeSpec := { name := "compileTicks", fn := fun _ => fun
  | [d] => { results := [.lit (.bool true)], args := [d] }
  | _ => none }
def compileTicksRow : OpenClaim := { program := "ytjmghomnbmbjnaa", sum := "1760fcbce135531e712090bff1e961fa9b1cb347e4ea941e742e10c906eb90bf", func := "clockwork/clockworklaw17.CompileTicks", spec := "compileTicks", unfollowed := true, recurses := true, loops := true, apart := false }
def CompileTicksSaid : Prop := compileTicksRow.holds Try.pinned (OpenSpec.ofChange compileTicksSpec)

/-- ITS FALSE NEIGHBOUR: 'it returns false'. Refute it at one input. -/
def compileTicksWrong : ChangeSpec := { name := "compileTicks", fn := fun _ => fun
  | [d] => { results := [.lit (.bool false)], args := [d] }
  | _ => none }
def CompileTicksWrongFalsely : Prop := compileTicksRow.holds Try.pinned (OpenSpec.ofChange compileTicksWrong)

/-- 'clockworklaw17.CompileStacks': WHATEVER THE INPUT: true; the input reads as it did. -/
def compileStacksSpec : ChangeSpec := { name := "compileStacks", fn := fun _ => fun
  | [d1, d2] => { results := [.lit (.bool true)], args := [d1, d2] }
  | _ => none }
def compileStacksRow : OpenClaim := { program := "ytjmghomnbmbjnaa", sum := "1760fcbce135531e712090bff1e961fa9b1cb347e4ea941e742e10c906eb90bf", func := "clockwork/clockworklaw17.CompileStacks", spec := "compileStacks", unfollowed := true, recurses := true, loops := true, apart := false }
def CompileStacksSaid : Prop := compileStacksRow.holds Try.pinned (OpenSpec.ofChange compileStacksSpec)

/-- ITS FALSE NEIGHBOUR: 'it returns false'. Refute it at one input. -/
def compileStacksWrong : ChangeSpec := { name := "compileStacks", fn := fun _ => fun
  | [d1, d2] => { results := [.lit (.bool false)], args := [d1, d2] }
  | _ => none }
def CompileStacksWrongFalsely : Prop := compileStacksRow.holds Try.pinned (OpenSpec.ofChange compileStacksWrong)

/- THE SECOND FORM. 'bulk': how many values and letters a reading holds, each counted each time it is reached (what is shared counts as often as it is met; a slice's spare places count too). A statement '..UptoSaid' is the law's where the arguments, and the package variables that the reading takes, are together of bulk at most 1048576: NARROWER than '..Said'. Prove '..Said' where nothing that the law and all that it calls make is longer than what came in: it says more and counts as full. Else prove '..UptoSaid'. A law counts once. -/
mutual
def uptoBulk {H : Type} : DataW H → Nat
  | .lit (.string bytes) => bytes.length + 1
  | .lit _ => 1
  | .nil => 1
  | .ptr d => uptoBulk d + 1
  | .slice elems spare => uptoBulkAll elems + uptoBulkAll spare + 1
  | .agg parts => uptoBulkAll parts + 1
  | .iface _ d => uptoBulk d + 1
  | .map entries => uptoBulkEntries entries + 1
  | .held _ => 1
def uptoBulkAll {H : Type} : List (DataW H) → Nat
  | [] => 0
  | d :: r => uptoBulk d + uptoBulkAll r
def uptoBulkEntries {H : Type} : List (Lit × DataW H) → Nat
  | [] => 0
  | x :: r => uptoBulkEntry x + uptoBulkEntries r
def uptoBulkEntry {H : Type} : Lit × DataW H → Nat
  | (.string bytes, d) => bytes.length + uptoBulk d + 1
  | (_, d) => uptoBulk d + 1
 end
def uptoSmall : (H : Type) → List (DataW H) → Bool := fun _ ds => decide (uptoBulkAll ds ≤ 1048576)
def OpenSpec.upto (s : _root_.Go.ChangeSpec) : _root_.Go.OpenSpec := { _root_.Go.OpenSpec.ofChange s with cond := some uptoSmall }

/-- 'clockworklaw17.CompileExprs', WHERE WHAT IT READS IS OF BULK AT MOST 1048576: true; the input reads as it did. -/
def compileExprsUptoRow : OpenClaim := { program := "ytjmghomnbmbjnaa", sum := "1760fcbce135531e712090bff1e961fa9b1cb347e4ea941e742e10c906eb90bf", func := "clockwork/clockworklaw17.CompileExprs", spec := "compileExprs", unfollowed := true, recurses := true, loops := true, apart := false, narrowed := true }
def CompileExprsUptoSaid : Prop := compileExprsUptoRow.holds Try.pinned (OpenSpec.upto compileExprsSpec)

/-- 'clockworklaw17.CompileTicks', WHERE WHAT IT READS IS OF BULK AT MOST 1048576: true; the input reads as it did. -/
def compileTicksUptoRow : OpenClaim := { program := "ytjmghomnbmbjnaa", sum := "1760fcbce135531e712090bff1e961fa9b1cb347e4ea941e742e10c906eb90bf", func := "clockwork/clockworklaw17.CompileTicks", spec := "compileTicks", unfollowed := true, recurses := true, loops := true, apart := false, narrowed := true }
def CompileTicksUptoSaid : Prop := compileTicksUptoRow.holds Try.pinned (OpenSpec.upto compileTicksSpec)

/-- 'clockworklaw17.CompileStacks', WHERE WHAT IT READS IS OF BULK AT MOST 1048576: true; the input reads as it did. -/
def compileStacksUptoRow : OpenClaim := { program := "ytjmghomnbmbjnaa", sum := "1760fcbce135531e712090bff1e961fa9b1cb347e4ea941e742e10c906eb90bf", func := "clockwork/clockworklaw17.CompileStacks", spec := "compileStacks", unfollowed := true, recurses := true, loops := true, apart := false, narrowed := true }
def CompileStacksUptoSaid : Prop := compileStacksUptoRow.holds Try.pinned (OpenSpec.upto compileStacksSpec)

end Rows
end Go.Proofs.Ytjmghomnbmbjnaa
