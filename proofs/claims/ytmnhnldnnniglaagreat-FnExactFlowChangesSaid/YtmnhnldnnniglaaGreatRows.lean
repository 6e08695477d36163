/-
  No cell of these rows narrows 'for every input' (looked for: loops, veiled, ifaces, maps, wideKeys, modest, calm, conditions, laid).
  DERIVED. THE GIVEN ROWS OF THIS SEAT. 4 by the template 'for every input the law returns true; each argument reads behind the call as it read before'; 0 by the template 'total and deterministic' (their statements: YtmnhnldnnniglaaGreatTotals.lean).
  GIVEN WITH THE SEED: the statements are not yours to turn. If you find one false, say at which input.
  Laid BY PROGRAM, IN A SANDBOX (cutbox-rows.mjs): the forced cells as the released guide's own fill.sh prints them over the translation 50d24fdd40b84eca… (all of the seat's roots in one cut). By AI agents, Wed Nov 11 2026. No macro, syntax, notation, axiom, sorry.
-/
import Derived.Test.YtmnhnldnnniglaaGreatChecked
import GoSem.Claim
import GoSem.ClaimJoined
import GoSem.ClaimMapViews
import Derived.JoinedTies
import Derived.KernelRfl
namespace Go.Proofs.YtmnhnldnnniglaaGreat
/- THE CELL 'sum', in the pinned program and in every row, IS THE sha256 OF THE DUMP (.gsa) THAT YtmnhnldnnniglaaGreatProg.lean LOADS. Nothing in Lean hashes anything: it is a label: what it is worth is what the hold of that sum in a sandbox is worth. -/
noncomputable def Tryz.pinned : Pinned := { name := "ytmnhnldnnniglaagreat", sum := "50d24fdd40b84eca68b317fbf569cfa0caede46bd077cf9ace121f5b5a719e87", checked := Tryz.checked }
namespace Rows
def none {H : Type} : Left H := { results := [], args := [] }

/-- 'laws.FnChangesOf': WHATEVER THE INPUT: true; the input reads as it did. -/
def fnChangesOfSpec : ChangeSpec := { name := "fnChangesOf", fn := fun _ => fun
  | [d] => { results := [.lit (.bool true)], args := [d] }
  | _ => none }
def fnChangesOfRow : OpenClaim := { program := "ytmnhnldnnniglaagreat", sum := "50d24fdd40b84eca68b317fbf569cfa0caede46bd077cf9ace121f5b5a719e87", func := "loop.example/sagaflows/laws.FnChangesOf", spec := "fnChangesOf", inPlace := ["internal/bytealg.abigen_runtime_cmpstring"], unfollowed := true, recurses := true, apart := false }
def FnChangesOfSaid : Prop := fnChangesOfRow.holds Tryz.pinned (OpenSpec.ofChange fnChangesOfSpec)

/-- ITS FALSE NEIGHBOUR: 'it returns false'. Refute it at one input. -/
def fnChangesOfWrong : ChangeSpec := { name := "fnChangesOf", fn := fun _ => fun
  | [d] => { results := [.lit (.bool false)], args := [d] }
  | _ => none }
def FnChangesOfWrongFalsely : Prop := fnChangesOfRow.holds Tryz.pinned (OpenSpec.ofChange fnChangesOfWrong)

/-- 'laws.FnExactFlowChanges': WHATEVER THE INPUT: true; the input reads as it did. -/
def fnExactFlowChangesSpec : ChangeSpec := { name := "fnExactFlowChanges", fn := fun _ => fun
  | [d1, d2] => { results := [.lit (.bool true)], args := [d1, d2] }
  | _ => none }
def fnExactFlowChangesRow : OpenClaim := { program := "ytmnhnldnnniglaagreat", sum := "50d24fdd40b84eca68b317fbf569cfa0caede46bd077cf9ace121f5b5a719e87", func := "loop.example/sagaflows/laws.FnExactFlowChanges", spec := "fnExactFlowChanges", inPlace := ["internal/bytealg.abigen_runtime_cmpstring"], unfollowed := true, recurses := true, apart := false }
def FnExactFlowChangesSaid : Prop := fnExactFlowChangesRow.holds Tryz.pinned (OpenSpec.ofChange fnExactFlowChangesSpec)

/-- ITS FALSE NEIGHBOUR: 'it returns false'. Refute it at one input. -/
def fnExactFlowChangesWrong : ChangeSpec := { name := "fnExactFlowChanges", fn := fun _ => fun
  | [d1, d2] => { results := [.lit (.bool false)], args := [d1, d2] }
  | _ => none }
def FnExactFlowChangesWrongFalsely : Prop := fnExactFlowChangesRow.holds Tryz.pinned (OpenSpec.ofChange fnExactFlowChangesWrong)

/-- 'laws.FnMoveMayUndo': WHATEVER THE INPUT: true; the input reads as it did. -/
def fnMoveMayUndoSpec : ChangeSpec := { name := "fnMoveMayUndo", fn := fun _ => fun
  | [d] => { results := [.lit (.bool true)], args := [d] }
  | _ => none }
def fnMoveMayUndoRow : OpenClaim := { program := "ytmnhnldnnniglaagreat", sum := "50d24fdd40b84eca68b317fbf569cfa0caede46bd077cf9ace121f5b5a719e87", func := "loop.example/sagaflows/laws.FnMoveMayUndo", spec := "fnMoveMayUndo", inPlace := ["internal/bytealg.abigen_runtime_cmpstring"], unfollowed := true, recurses := true, apart := false }
def FnMoveMayUndoSaid : Prop := fnMoveMayUndoRow.holds Tryz.pinned (OpenSpec.ofChange fnMoveMayUndoSpec)

/-- ITS FALSE NEIGHBOUR: 'it returns false'. Refute it at one input. -/
def fnMoveMayUndoWrong : ChangeSpec := { name := "fnMoveMayUndo", fn := fun _ => fun
  | [d] => { results := [.lit (.bool false)], args := [d] }
  | _ => none }
def FnMoveMayUndoWrongFalsely : Prop := fnMoveMayUndoRow.holds Tryz.pinned (OpenSpec.ofChange fnMoveMayUndoWrong)

/-- 'laws.FnMoveMayAdd': WHATEVER THE INPUT: true; the input reads as it did. -/
def fnMoveMayAddSpec : ChangeSpec := { name := "fnMoveMayAdd", fn := fun _ => fun
  | [d] => { results := [.lit (.bool true)], args := [d] }
  | _ => none }
def fnMoveMayAddRow : OpenClaim := { program := "ytmnhnldnnniglaagreat", sum := "50d24fdd40b84eca68b317fbf569cfa0caede46bd077cf9ace121f5b5a719e87", func := "loop.example/sagaflows/laws.FnMoveMayAdd", spec := "fnMoveMayAdd", inPlace := ["internal/bytealg.abigen_runtime_cmpstring"], unfollowed := true, recurses := true, apart := false }
def FnMoveMayAddSaid : Prop := fnMoveMayAddRow.holds Tryz.pinned (OpenSpec.ofChange fnMoveMayAddSpec)

/-- ITS FALSE NEIGHBOUR: 'it returns false'. Refute it at one input. -/
def fnMoveMayAddWrong : ChangeSpec := { name := "fnMoveMayAdd", fn := fun _ => fun
  | [d] => { results := [.lit (.bool false)], args := [d] }
  | _ => none }
def FnMoveMayAddWrongFalsely : Prop := fnMoveMayAddRow.holds Tryz.pinned (OpenSpec.ofChange fnMoveMayAddWrong)

/- THE SECOND FORM. 'bulk': how many values and letters a reading holds, each counted each time it is reached (what is shared counts as often as it is met; a slice's spare places count too). A statement '..UptoSaid' is the law's where the arguments, and the package variables that the reading takes, are together of bulk at most 1048576: NARROWER than '..Said'. Prove '..Said' where nothing that the law and all that it calls make is longer than what came in: it says more and counts as full. Else prove '..UptoSaid'. A law counts once. -/
mutual
def uptoBulk {H : Type} : DataW H → Nat
  | .lit (.string bytes) => bytes.length + 1
  | .lit _ => 1
  | .nil => 1
  | .ptr d => uptoBulk d + 1
  | .slice elems spare => uptoBulkAll elems + uptoBulkAll spare + 1
  | .agg parts => uptoBulkAll parts + 1
  | .iface _ d => uptoBulk d + 1
  | .map entries => uptoBulkEntries entries + 1
  | .held _ => 1
def uptoBulkAll {H : Type} : List (DataW H) → Nat
  | [] => 0
  | d :: r => uptoBulk d + uptoBulkAll r
def uptoBulkEntries {H : Type} : List (Lit × DataW H) → Nat
  | [] => 0
  | x :: r => uptoBulkEntry x + uptoBulkEntries r
def uptoBulkEntry {H : Type} : Lit × DataW H → Nat
  | (.string bytes, d) => bytes.length + uptoBulk d + 1
  | (_, d) => uptoBulk d + 1
 end
def uptoSmall : (H : Type) → List (DataW H) → Bool := fun _ ds => decide (uptoBulkAll ds ≤ 1048576)
def OpenSpec.upto (s : _root_.Go.ChangeSpec) : _root_.Go.OpenSpec := { _root_.Go.OpenSpec.ofChange s with cond := some uptoSmall }

/-- 'laws.FnChangesOf', WHERE WHAT IT READS IS OF BULK AT MOST 1048576: true; the input reads as it did. -/
def fnChangesOfUptoRow : OpenClaim := { program := "ytmnhnldnnniglaagreat", sum := "50d24fdd40b84eca68b317fbf569cfa0caede46bd077cf9ace121f5b5a719e87", func := "loop.example/sagaflows/laws.FnChangesOf", spec := "fnChangesOf", inPlace := ["internal/bytealg.abigen_runtime_cmpstring"], unfollowed := true, recurses := true, apart := false, narrowed := true }
def FnChangesOfUptoSaid : Prop := fnChangesOfUptoRow.holds Tryz.pinned (OpenSpec.upto fnChangesOfSpec)

/-- 'laws.FnExactFlowChanges', WHERE WHAT IT READS IS OF BULK AT MOST 1048576: true; the input reads as it did. -/
def fnExactFlowChangesUptoRow : OpenClaim := { program := "ytmnhnldnnniglaagreat", sum := "50d24fdd40b84eca68b317fbf569cfa0caede46bd077cf9ace121f5b5a719e87", func := "loop.example/sagaflows/laws.FnExactFlowChanges", spec := "fnExactFlowChanges", inPlace := ["internal/bytealg.abigen_runtime_cmpstring"], unfollowed := true, recurses := true, apart := false, narrowed := true }
def FnExactFlowChangesUptoSaid : Prop := fnExactFlowChangesUptoRow.holds Tryz.pinned (OpenSpec.upto fnExactFlowChangesSpec)

/-- 'laws.FnMoveMayUndo', WHERE WHAT IT READS IS OF BULK AT MOST 1048576: true; the input reads as it did. -/
def fnMoveMayUndoUptoRow : OpenClaim := { program := "ytmnhnldnnniglaagreat", sum := "50d24fdd40b84eca68b317fbf569cfa0caede46bd077cf9ace121f5b5a719e87", func := "loop.example/sagaflows/laws.FnMoveMayUndo", spec := "fnMoveMayUndo", inPlace := ["internal/bytealg.abigen_runtime_cmpstring"], unfollowed := true, recurses := true, apart := false, narrowed := true }
def FnMoveMayUndoUptoSaid : Prop := fnMoveMayUndoUptoRow.holds Tryz.pinned (OpenSpec.upto fnMoveMayUndoSpec)

/-- 'laws.FnMoveMayAdd', WHERE WHAT IT READS IS OF BULK AT MOST 1048576: true; the input reads as it did. -/
def fnMoveMayAddUptoRow : OpenClaim := { program := "ytmnhnldnnniglaagreat", sum := "50d24fdd40b84eca68b317fbf569cfa0caede46bd077cf9ace121f5b5a719e87", func := "loop.example/sagaflows/laws.FnMoveMayAdd", spec := "fnMoveMayAdd", inPlace := ["internal/bytealg.abigen_runtime_cmpstring"], unfollowed := true, recurses := true, apart := false, narrowed := true }
def FnMoveMayAddUptoSaid : Prop := fnMoveMayAddUptoRow.holds Tryz.pinned (OpenSpec.upto fnMoveMayAddSpec)

end Rows
end Go.Proofs.YtmnhnldnnniglaaGreat
