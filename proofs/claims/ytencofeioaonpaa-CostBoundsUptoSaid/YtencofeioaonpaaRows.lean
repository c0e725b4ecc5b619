/-
  NARROWER THAN 'FOR EVERY INPUT', by the rows' own cells (each row's printed sentence says how): CostBounds: loops · CostLoops: loops · CostRenames: loops.
  DERIVED. THE GIVEN ROWS OF THIS SEAT. 3 by the template 'for every input the law returns true; each argument reads behind the call as it read before'; 0 by the template 'total and deterministic' (their statements: YtencofeioaonpaaTotals.lean).
  GIVEN WITH THE SEED: the statements are not yours to turn. If you find one false, say at which input.
  Laid BY PROGRAM, IN A SANDBOX (cutbox-rows.mjs): the forced cells as the released guide's own fill.sh prints them over the translation baf2cec970dfc285… (all of the seat's roots in one cut). By AI agents, Wed Nov 11 2026. No macro, syntax, notation, axiom, sorry.
-/
import Derived.Test.YtencofeioaonpaaChecked
import GoSem.Claim
import GoSem.ClaimJoined
import GoSem.ClaimMapViews
import Derived.JoinedTies
import Derived.KernelRfl
namespace Go.Proofs.Ytencofeioaonpaa
/- THE CELL 'sum', in the pinned program and in every row, IS THE sha256 OF THE DUMP (.gsa) THAT YtencofeioaonpaaProg.lean LOADS. Nothing in Lean hashes anything: it is a label: what it is worth is what the hold of that sum in a sandbox is worth. -/
noncomputable def Try.pinned : Pinned := { name := "ytencofeioaonpaa", sum := "baf2cec970dfc28590d169e85aa7bdf30052c172e19fc010044a169cf2bb2b09", checked := Try.checked }
namespace Rows
def none {H : Type} : Left H := { results := [], args := [] }

/-- 'clockworklaw13.CostBounds': WHATEVER THE INPUT: true; the input reads as it did. -/
def costBoundsSpec : ChangeSpec := { name := "costBounds", fn := fun _ => fun
  | [d1, d2] => { results := [.lit (.bool true)], args := [d1, d2] }
  | _ => none }
def costBoundsRow : OpenClaim := { program := "ytencofeioaonpaa", sum := "baf2cec970dfc28590d169e85aa7bdf30052c172e19fc010044a169cf2bb2b09", func := "clockwork/clockworklaw13.CostBounds", spec := "costBounds", unfollowed := true, recurses := true, loops := true, apart := false }
def CostBoundsSaid : Prop := costBoundsRow.holds Try.pinned (OpenSpec.ofChange costBoundsSpec)

/-- ITS FALSE NEIGHBOUR: 'it returns false'. Refute it at one input. -/
def costBoundsWrong : ChangeSpec := { name := "costBounds", fn := fun _ => fun
  | [d1, d2] => { results := [.lit (.bool false)], args := [d1, d2] }
  | _ => none }
def CostBoundsWrongFalsely : Prop := costBoundsRow.holds Try.pinned (OpenSpec.ofChange costBoundsWrong)

/-- 'clockworklaw13.CostLoops': WHATEVER THE INPUT: true; the input reads as it did. -/
def costLoopsSpec : ChangeSpec := { name := "costLoops", fn := fun _ => fun
  | [d1, d2, d3] => { results := [.lit (.bool true)], args := [d1, d2, d3] }
  | _ => none }
def costLoopsRow : OpenClaim := { program := "ytencofeioaonpaa", sum := "baf2cec970dfc28590d169e85aa7bdf30052c172e19fc010044a169cf2bb2b09", func := "clockwork/clockworklaw13.CostLoops", spec := "costLoops", unfollowed := true, recurses := true, loops := true, apart := false }
def CostLoopsSaid : Prop := costLoopsRow.holds Try.pinned (OpenSpec.ofChange costLoopsSpec)

/-- ITS FALSE NEIGHBOUR: 'it returns false'. Refute it at one input. -/
def costLoopsWrong : ChangeSpec := { name := "costLoops", fn := fun _ => fun
  | [d1, d2, d3] => { results := [.lit (.bool false)], args := [d1, d2, d3] }
  | _ => none }
def CostLoopsWrongFalsely : Prop := costLoopsRow.holds Try.pinned (OpenSpec.ofChange costLoopsWrong)

/-- 'clockworklaw13.CostRenames': WHATEVER THE INPUT: true; the input reads as it did. -/
def costRenamesSpec : ChangeSpec := { name := "costRenames", fn := fun _ => fun
  | [d1, d2, d3] => { results := [.lit (.bool true)], args := [d1, d2, d3] }
  | _ => none }
def costRenamesRow : OpenClaim := { program := "ytencofeioaonpaa", sum := "baf2cec970dfc28590d169e85aa7bdf30052c172e19fc010044a169cf2bb2b09", func := "clockwork/clockworklaw13.CostRenames", spec := "costRenames", unfollowed := true, recurses := true, loops := true, apart := false }
def CostRenamesSaid : Prop := costRenamesRow.holds Try.pinned (OpenSpec.ofChange costRenamesSpec)

/-- ITS FALSE NEIGHBOUR: 'it returns false'. Refute it at one input. -/
def costRenamesWrong : ChangeSpec := { name := "costRenames", fn := fun _ => fun
  | [d1, d2, d3] => { results := [.lit (.bool false)], args := [d1, d2, d3] }
  | _ => none }
def CostRenamesWrongFalsely : Prop := costRenamesRow.holds Try.pinned (OpenSpec.ofChange costRenamesWrong)

/- THE SECOND FORM. 'bulk': how many values and letters a reading holds, each counted each time it is reached (what is shared counts as often as it is met; a slice's spare places count too). A statement '..UptoSaid' is the law's where the arguments, and the package variables that the reading takes, are together of bulk at most 1048576: NARROWER than '..Said'. Prove '..Said' where nothing that the law and all that it calls make is longer than what came in: it says more and counts as full. Else prove '..UptoSaid'. A law counts once. -/
mutual
def uptoBulk {H : Type} : DataW H → Nat
  | .lit (.string bytes) => bytes.length + 1
  | .lit _ => 1
  | .nil => 1
  | .ptr d => uptoBulk d + 1
  | .slice elems spare => uptoBulkAll elems + uptoBulkAll spare + 1
  | .agg parts => uptoBulkAll parts + 1
  | .iface _ d => uptoBulk d + 1
  | .map entries => uptoBulkEntries entries + 1
  | .held _ => 1
def uptoBulkAll {H : Type} : List (DataW H) → Nat
  | [] => 0
  | d :: r => uptoBulk d + uptoBulkAll r
def uptoBulkEntries {H : Type} : List (Lit × DataW H) → Nat
  | [] => 0
  | x :: r => uptoBulkEntry x + uptoBulkEntries r
def uptoBulkEntry {H : Type} : Lit × DataW H → Nat
  | (.string bytes, d) => bytes.length + uptoBulk d + 1
  | (_, d) => uptoBulk d + 1
 end
def uptoSmall : (H : Type) → List (DataW H) → Bool := fun _ ds => decide (uptoBulkAll ds ≤ 1048576)
def OpenSpec.upto (s : _root_.Go.ChangeSpec) : _root_.Go.OpenSpec := { _root_.Go.OpenSpec.ofChange s with cond := some uptoSmall }

/-- 'clockworklaw13.CostBounds', WHERE WHAT IT READS IS OF BULK AT MOST 1048576: true; the input reads as it did. -/
def costBoundsUptoRow : OpenClaim := { program := "ytencofeioaonpaa", sum := "baf2cec970dfc28590d169e85aa7bdf30052c172e19fc010044a169cf2bb2b09", func := "clockwork/clockworklaw13.CostBounds", spec := "costBounds", unfollowed := true, recurses := true, loops := true, apart := false, narrowed := true }
def CostBoundsUptoSaid : Prop := costBoundsUptoRow.holds Try.pinned (OpenSpec.upto costBoundsSpec)

/-- 'clockworklaw13.CostLoops', WHERE WHAT IT READS IS OF BULK AT MOST 1048576: true; the input reads as it did. -/
def costLoopsUptoRow : OpenClaim := { program := "ytencofeioaonpaa", sum := "baf2cec970dfc28590d169e85aa7bdf30052c172e19fc010044a169cf2bb2b09", func := "clockwork/clockworklaw13.CostLoops", spec := "costLoops", unfollowed := true, recurses := true, loops := true, apart := false, narrowed := true }
def CostLoopsUptoSaid : Prop := costLoopsUptoRow.holds Try.pinned (OpenSpec.upto costLoopsSpec)

/-- 'clockworklaw13.CostRenames', WHERE WHAT IT READS IS OF BULK AT MOST 1048576: true; the input reads as it did. -/
def costRenamesUptoRow : OpenClaim := { program := "ytencofeioaonpaa", sum := "baf2cec970dfc28590d169e85aa7bdf30052c172e19fc010044a169cf2bb2b09", func := "clockwork/clockworklaw13.CostRenames", spec := "costRenames", unfollowed := true, recurses := true, loops := true, apart := false, narrowed := true }
def CostRenamesUptoSaid : Prop := costRenamesUptoRow.holds Try.pinned (OpenSpec.upto costRenamesSpec)

end Rows
end Go.Proofs.Ytencofeioaonpaa
