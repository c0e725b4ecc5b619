/-
  NARROWER THAN 'FOR EVERY INPUT', by the rows' own cells (each row's printed sentence says how): CompileSlots: loops · CompileProcs: loops · CompileRenames: loops · CompileLoads: loops.
  DERIVED. THE GIVEN ROWS OF THIS SEAT. 4 by the template 'for every input the law returns true; each argument reads behind the call as it read before'; 0 by the template 'total and deterministic' (their statements: YtjmghomnbmbjnaaGreatTotals.lean).
  GIVEN WITH THE SEED: the statements are not yours to turn. If you find one false, say at which input.
  Laid BY PROGRAM, IN A SANDBOX (cutbox-rows.mjs): the forced cells as the released guide's own fill.sh prints them over the translation c47850adc02ed5f0… (all of the seat's roots in one cut). By AI agents, Wed Nov 11 2026. No macro, syntax, notation, axiom, sorry.
-/
import Derived.Test.YtjmghomnbmbjnaaGreatChecked
import GoSem.Claim
import GoSem.ClaimJoined
import GoSem.ClaimMapViews
import Derived.JoinedTies
import Derived.KernelRfl
namespace Go.Proofs.YtjmghomnbmbjnaaGreat
/- THE CELL 'sum', in the pinned program and in every row, IS THE sha256 OF THE DUMP (.gsa) THAT YtjmghomnbmbjnaaGreatProg.lean LOADS. Nothing in Lean hashes anything: it is a label: what it is worth is what the hold of that sum in a sandbox is worth. -/
noncomputable def Tryz.pinned : Pinned := { name := "ytjmghomnbmbjnaagreat", sum := "c47850adc02ed5f049c7d4857075be0e54010eff130e00ecf6c4c741a1cf729f", checked := Tryz.checked }
namespace Rows
def none {H : Type} : Left H := { results := [], args := [] }

/-- 'clockworklaw17.CompileSlots': WHATEVER THE INPUT: true; the input reads as it did. -/
def compileSlotsSpec : ChangeSpec := { name := "compileSlots", fn := fun _ => fun
  | [d] => { results := [.lit (.bool true)], args := [d] }
  | _ => none }
def compileSlotsRow : OpenClaim := { program := "ytjmghomnbmbjnaagreat", sum := "c47850adc02ed5f049c7d4857075be0e54010eff130e00ecf6c4c741a1cf729f", func := "clockwork/clockworklaw17.CompileSlots", spec := "compileSlots", unfollowed := true, recurses := true, loops := true, apart := false }
def CompileSlotsSaid : Prop := compileSlotsRow.holds Tryz.pinned (OpenSpec.ofChange compileSlotsSpec)

/-- ITS FALSE NEIGHBOUR: 'it returns false'. Refute it at one input. -/
def compileSlotsWrong : ChangeSpec := { name := "compileSlots", fn := fun _ => fun
  | [d] => { results := [.lit (.bool false)], args := [d] }
  | _ => none }
def CompileSlotsWrongFalsely : Prop := compileSlotsRow.holds Tryz.pinned (OpenSpec.ofChange compileSlotsWrong)

/-- 'clockworklaw17.CompileProcs': WHATEVER THE INPUT: true; the input reads as it did. -/
def compileProcsSpec : ChangeSpec := { name := "compileProcs", fn := fun _ => fun
  | [d] => { results := [.lit (.bool true)], args := [d] }
  | _ => none }
def compileProcsRow : OpenClaim := { program := "ytjmghomnbmbjnaagreat", sum := "c47850adc02ed5f049c7d4857075be0e54010eff130e00ecf6c4c741a1cf729f", func := "clockwork/clockworklaw17.CompileProcs", spec := "compileProcs", unfollowed := true, recurses := true, loops := true, apart := false }
def CompileProcsSaid : Prop := compileProcsRow.holds Tryz.pinned (OpenSpec.ofChange compileProcsSpec)

/-- ITS FALSE NEIGHBOUR: 'it returns false'. Refute it at one input. -/
def compileProcsWrong : ChangeSpec := { name := "compileProcs", fn := fun _ => fun
  | [d] => { results := [.lit (.bool false)], args := [d] }
  | _ => none }
def CompileProcsWrongFalsely : Prop := compileProcsRow.holds Tryz.pinned (OpenSpec.ofChange compileProcsWrong)

/-- 'clockworklaw17.CompileRenames': WHATEVER THE INPUT: true; the input reads as it did. -/
def compileRenamesSpec : ChangeSpec := { name := "compileRenames", fn := fun _ => fun
  | [d1, d2, d3] => { results := [.lit (.bool true)], args := [d1, d2, d3] }
  | _ => none }
def compileRenamesRow : OpenClaim := { program := "ytjmghomnbmbjnaagreat", sum := "c47850adc02ed5f049c7d4857075be0e54010eff130e00ecf6c4c741a1cf729f", func := "clockwork/clockworklaw17.CompileRenames", spec := "compileRenames", unfollowed := true, recurses := true, loops := true, apart := false }
def CompileRenamesSaid : Prop := compileRenamesRow.holds Tryz.pinned (OpenSpec.ofChange compileRenamesSpec)

/-- ITS FALSE NEIGHBOUR: 'it returns false'. Refute it at one input. -/
def compileRenamesWrong : ChangeSpec := { name := "compileRenames", fn := fun _ => fun
  | [d1, d2, d3] => { results := [.lit (.bool false)], args := [d1, d2, d3] }
  | _ => none }
def CompileRenamesWrongFalsely : Prop := compileRenamesRow.holds Tryz.pinned (OpenSpec.ofChange compileRenamesWrong)

/-- 'clockworklaw17.CompileLoads': WHATEVER THE INPUT: true; the input reads as it did. -/
def compileLoadsSpec : ChangeSpec := { name := "compileLoads", fn := fun _ => fun
  | [d] => { results := [.lit (.bool true)], args := [d] }
  | _ => none }
def compileLoadsRow : OpenClaim := { program := "ytjmghomnbmbjnaagreat", sum := "c47850adc02ed5f049c7d4857075be0e54010eff130e00ecf6c4c741a1cf729f", func := "clockwork/clockworklaw17.CompileLoads", spec := "compileLoads", unfollowed := true, recurses := true, loops := true, apart := false }
def CompileLoadsSaid : Prop := compileLoadsRow.holds Tryz.pinned (OpenSpec.ofChange compileLoadsSpec)

/-- ITS FALSE NEIGHBOUR: 'it returns false'. Refute it at one input. -/
def compileLoadsWrong : ChangeSpec := { name := "compileLoads", fn := fun _ => fun
  | [d] => { results := [.lit (.bool false)], args := [d] }
  | _ => none }
def CompileLoadsWrongFalsely : Prop := compileLoadsRow.holds Tryz.pinned (OpenSpec.ofChange compileLoadsWrong)

/- THE SECOND FORM. 'bulk': how many values and letters a reading holds, each counted each time it is reached (what is shared counts as often as it is met; a slice's spare places count too). A statement '..UptoSaid' is the law's where the arguments, and the package variables that the reading takes, are together of bulk at most 1048576: NARROWER than '..Said'. Prove '..Said' where nothing that the law and all that it calls make is longer than what came in: it says more and counts as full. Else prove '..UptoSaid'. A law counts once. -/
mutual
def uptoBulk {H : Type} : DataW H → Nat
  | .lit (.string bytes) => bytes.length + 1
  | .lit _ => 1
  | .nil => 1
  | .ptr d => uptoBulk d + 1
  | .slice elems spare => uptoBulkAll elems + uptoBulkAll spare + 1
  | .agg parts => uptoBulkAll parts + 1
  | .iface _ d => uptoBulk d + 1
  | .map entries => uptoBulkEntries entries + 1
  | .held _ => 1
def uptoBulkAll {H : Type} : List (DataW H) → Nat
  | [] => 0
  | d :: r => uptoBulk d + uptoBulkAll r
def uptoBulkEntries {H : Type} : List (Lit × DataW H) → Nat
  | [] => 0
  | x :: r => uptoBulkEntry x + uptoBulkEntries r
def uptoBulkEntry {H : Type} : Lit × DataW H → Nat
  | (.string bytes, d) => bytes.length + uptoBulk d + 1
  | (_, d) => uptoBulk d + 1
 end
def uptoSmall : (H : Type) → List (DataW H) → Bool := fun _ ds => decide (uptoBulkAll ds ≤ 1048576)
def OpenSpec.upto (s : _root_.Go.ChangeSpec) : _root_.Go.OpenSpec := { _root_.Go.OpenSpec.ofChange s with cond := some uptoSmall }

/-- 'clockworklaw17.CompileSlots', WHERE WHAT IT READS IS OF BULK AT MOST 1048576: true; the input reads as it did. -/
def compileSlotsUptoRow : OpenClaim := { program := "ytjmghomnbmbjnaagreat", sum := "c47850adc02ed5f049c7d4857075be0e54010eff130e00ecf6c4c741a1cf729f", func := "clockwork/clockworklaw17.CompileSlots", spec := "compileSlots", unfollowed := true, recurses := true, loops := true, apart := false, narrowed := true }
def CompileSlotsUptoSaid : Prop := compileSlotsUptoRow.holds Tryz.pinned (OpenSpec.upto compileSlotsSpec)

/-- 'clockworklaw17.CompileProcs', WHERE WHAT IT READS IS OF BULK AT MOST 1048576: true; the input reads as it did. -/
def compileProcsUptoRow : OpenClaim := { program := "ytjmghomnbmbjnaagreat", sum := "c47850adc02ed5f049c7d4857075be0e54010eff130e00ecf6c4c741a1cf729f", func := "clockwork/clockworklaw17.CompileProcs", spec := "compileProcs", unfollowed := true, recurses := true, loops := true, apart := false, narrowed := true }
def CompileProcsUptoSaid : Prop := compileProcsUptoRow.holds Tryz.pinned (OpenSpec.upto compileProcsSpec)

/-- 'clockworklaw17.CompileRenames', WHERE WHAT IT READS IS OF BULK AT MOST 1048576: true; the input reads as it did. -/
def compileRenamesUptoRow : OpenClaim := { program := "ytjmghomnbmbjnaagreat", sum := "c47850adc02ed5f049c7d4857075be0e54010eff130e00ecf6c4c741a1cf729f", func := "clockwork/clockworklaw17.CompileRenames", spec := "compileRenames", unfollowed := true, recurses := true, loops := true, apart := false, narrowed := true }
def CompileRenamesUptoSaid : Prop := compileRenamesUptoRow.holds Tryz.pinned (OpenSpec.upto compileRenamesSpec)

/-- 'clockworklaw17.CompileLoads', WHERE WHAT IT READS IS OF BULK AT MOST 1048576: true; the input reads as it did. -/
def compileLoadsUptoRow : OpenClaim := { program := "ytjmghomnbmbjnaagreat", sum := "c47850adc02ed5f049c7d4857075be0e54010eff130e00ecf6c4c741a1cf729f", func := "clockwork/clockworklaw17.CompileLoads", spec := "compileLoads", unfollowed := true, recurses := true, loops := true, apart := false, narrowed := true }
def CompileLoadsUptoSaid : Prop := compileLoadsUptoRow.holds Tryz.pinned (OpenSpec.upto compileLoadsSpec)

end Rows
end Go.Proofs.YtjmghomnbmbjnaaGreat
