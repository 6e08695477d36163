/-
  No cell of these rows narrows 'for every input' (looked for: loops, veiled, ifaces, maps, wideKeys, modest, calm, conditions, laid).
  DERIVED. THE GIVEN ROWS OF THIS SEAT. 4 by the template 'for every input the law returns true; each argument reads behind the call as it read before'; 0 by the template 'total and deterministic' (their statements: YtmnhnldnnniglaaTotals.lean).
  GIVEN WITH THE SEED: the statements are not yours to turn. If you find one false, say at which input.
  Laid BY PROGRAM, IN A SANDBOX (cutbox-rows.mjs): the forced cells as the released guide's own fill.sh prints them over the translation b6d277e04f611c3c… (all of the seat's roots in one cut). By AI agents, Wed Nov 11 2026. No macro, syntax, notation, axiom, sorry.
-/
import Derived.Test.YtmnhnldnnniglaaChecked
import GoSem.Claim
import GoSem.ClaimJoined
import GoSem.ClaimMapViews
import Derived.JoinedTies
import Derived.KernelRfl
namespace Go.Proofs.Ytmnhnldnnniglaa
/- THE CELL 'sum', in the pinned program and in every row, IS THE sha256 OF THE DUMP (.gsa) THAT YtmnhnldnnniglaaProg.lean LOADS. Nothing in Lean hashes anything: it is a label: what it is worth is what the hold of that sum in a sandbox is worth. -/
noncomputable def Try.pinned : Pinned := { name := "ytmnhnldnnniglaa", sum := "b6d277e04f611c3c391bacfac9f92ea121a34074eac3ca4446c128cc16bcf731", checked := Try.checked }
namespace Rows
def none {H : Type} : Left H := { results := [], args := [] }

/-- 'laws.FnChangeDrop': WHATEVER THE INPUT: true; the input reads as it did. -/
def fnChangeDropSpec : ChangeSpec := { name := "fnChangeDrop", fn := fun _ => fun
  | [d] => { results := [.lit (.bool true)], args := [d] }
  | _ => none }
def fnChangeDropRow : OpenClaim := { program := "ytmnhnldnnniglaa", sum := "b6d277e04f611c3c391bacfac9f92ea121a34074eac3ca4446c128cc16bcf731", func := "loop.example/sagaflows/laws.FnChangeDrop", spec := "fnChangeDrop", inPlace := ["internal/bytealg.abigen_runtime_cmpstring"], unfollowed := true, recurses := true, apart := false }
def FnChangeDropSaid : Prop := fnChangeDropRow.holds Try.pinned (OpenSpec.ofChange fnChangeDropSpec)

/-- ITS FALSE NEIGHBOUR: 'it returns false'. Refute it at one input. -/
def fnChangeDropWrong : ChangeSpec := { name := "fnChangeDrop", fn := fun _ => fun
  | [d] => { results := [.lit (.bool false)], args := [d] }
  | _ => none }
def FnChangeDropWrongFalsely : Prop := fnChangeDropRow.holds Try.pinned (OpenSpec.ofChange fnChangeDropWrong)

/-- 'laws.FnChangeBehind': WHATEVER THE INPUT: true; the input reads as it did. -/
def fnChangeBehindSpec : ChangeSpec := { name := "fnChangeBehind", fn := fun _ => fun
  | [d] => { results := [.lit (.bool true)], args := [d] }
  | _ => none }
def fnChangeBehindRow : OpenClaim := { program := "ytmnhnldnnniglaa", sum := "b6d277e04f611c3c391bacfac9f92ea121a34074eac3ca4446c128cc16bcf731", func := "loop.example/sagaflows/laws.FnChangeBehind", spec := "fnChangeBehind", inPlace := ["internal/bytealg.abigen_runtime_cmpstring"], unfollowed := true, recurses := true, apart := false }
def FnChangeBehindSaid : Prop := fnChangeBehindRow.holds Try.pinned (OpenSpec.ofChange fnChangeBehindSpec)

/-- ITS FALSE NEIGHBOUR: 'it returns false'. Refute it at one input. -/
def fnChangeBehindWrong : ChangeSpec := { name := "fnChangeBehind", fn := fun _ => fun
  | [d] => { results := [.lit (.bool false)], args := [d] }
  | _ => none }
def FnChangeBehindWrongFalsely : Prop := fnChangeBehindRow.holds Try.pinned (OpenSpec.ofChange fnChangeBehindWrong)

/-- 'laws.FnChanges': WHATEVER THE INPUT: true; the input reads as it did. -/
def fnChangesSpec : ChangeSpec := { name := "fnChanges", fn := fun _ => fun
  | [d1, d2] => { results := [.lit (.bool true)], args := [d1, d2] }
  | _ => none }
def fnChangesRow : OpenClaim := { program := "ytmnhnldnnniglaa", sum := "b6d277e04f611c3c391bacfac9f92ea121a34074eac3ca4446c128cc16bcf731", func := "loop.example/sagaflows/laws.FnChanges", spec := "fnChanges", inPlace := ["internal/bytealg.abigen_runtime_cmpstring"], unfollowed := true, recurses := true, apart := false }
def FnChangesSaid : Prop := fnChangesRow.holds Try.pinned (OpenSpec.ofChange fnChangesSpec)

/-- ITS FALSE NEIGHBOUR: 'it returns false'. Refute it at one input. -/
def fnChangesWrong : ChangeSpec := { name := "fnChanges", fn := fun _ => fun
  | [d1, d2] => { results := [.lit (.bool false)], args := [d1, d2] }
  | _ => none }
def FnChangesWrongFalsely : Prop := fnChangesRow.holds Try.pinned (OpenSpec.ofChange fnChangesWrong)

/-- 'laws.FnChangesOfKinds': WHATEVER THE INPUT: true; the input reads as it did. -/
def fnChangesOfKindsSpec : ChangeSpec := { name := "fnChangesOfKinds", fn := fun _ => fun
  | [d] => { results := [.lit (.bool true)], args := [d] }
  | _ => none }
def fnChangesOfKindsRow : OpenClaim := { program := "ytmnhnldnnniglaa", sum := "b6d277e04f611c3c391bacfac9f92ea121a34074eac3ca4446c128cc16bcf731", func := "loop.example/sagaflows/laws.FnChangesOfKinds", spec := "fnChangesOfKinds", unfollowed := true, recurses := true, apart := false }
def FnChangesOfKindsSaid : Prop := fnChangesOfKindsRow.holds Try.pinned (OpenSpec.ofChange fnChangesOfKindsSpec)

/-- ITS FALSE NEIGHBOUR: 'it returns false'. Refute it at one input. -/
def fnChangesOfKindsWrong : ChangeSpec := { name := "fnChangesOfKinds", fn := fun _ => fun
  | [d] => { results := [.lit (.bool false)], args := [d] }
  | _ => none }
def FnChangesOfKindsWrongFalsely : Prop := fnChangesOfKindsRow.holds Try.pinned (OpenSpec.ofChange fnChangesOfKindsWrong)

/- THE SECOND FORM. 'bulk': how many values and letters a reading holds, each counted each time it is reached (what is shared counts as often as it is met; a slice's spare places count too). A statement '..UptoSaid' is the law's where the arguments, and the package variables that the reading takes, are together of bulk at most 1048576: NARROWER than '..Said'. Prove '..Said' where nothing that the law and all that it calls make is longer than what came in: it says more and counts as full. Else prove '..UptoSaid'. A law counts once. -/
mutual
def uptoBulk {H : Type} : DataW H → Nat
  | .lit (.string bytes) => bytes.length + 1
  | .lit _ => 1
  | .nil => 1
  | .ptr d => uptoBulk d + 1
  | .slice elems spare => uptoBulkAll elems + uptoBulkAll spare + 1
  | .agg parts => uptoBulkAll parts + 1
  | .iface _ d => uptoBulk d + 1
  | .map entries => uptoBulkEntries entries + 1
  | .held _ => 1
def uptoBulkAll {H : Type} : List (DataW H) → Nat
  | [] => 0
  | d :: r => uptoBulk d + uptoBulkAll r
def uptoBulkEntries {H : Type} : List (Lit × DataW H) → Nat
  | [] => 0
  | x :: r => uptoBulkEntry x + uptoBulkEntries r
def uptoBulkEntry {H : Type} : Lit × DataW H → Nat
  | (.string bytes, d) => bytes.length + uptoBulk d + 1
  | (_, d) => uptoBulk d + 1
 end
def uptoSmall : (H : Type) → List (DataW H) → Bool := fun _ ds => decide (uptoBulkAll ds ≤ 1048576)
def OpenSpec.upto (s : _root_.Go.ChangeSpec) : _root_.Go.OpenSpec := { _root_.Go.OpenSpec.ofChange s with cond := some uptoSmall }

/-- 'laws.FnChangeDrop', WHERE WHAT IT READS IS OF BULK AT MOST 1048576: true; the input reads as it did. -/
def fnChangeDropUptoRow : OpenClaim := { program := "ytmnhnldnnniglaa", sum := "b6d277e04f611c3c391bacfac9f92ea121a34074eac3ca4446c128cc16bcf731", func := "loop.example/sagaflows/laws.FnChangeDrop", spec := "fnChangeDrop", inPlace := ["internal/bytealg.abigen_runtime_cmpstring"], unfollowed := true, recurses := true, apart := false, narrowed := true }
def FnChangeDropUptoSaid : Prop := fnChangeDropUptoRow.holds Try.pinned (OpenSpec.upto fnChangeDropSpec)

/-- 'laws.FnChangeBehind', WHERE WHAT IT READS IS OF BULK AT MOST 1048576: true; the input reads as it did. -/
def fnChangeBehindUptoRow : OpenClaim := { program := "ytmnhnldnnniglaa", sum := "b6d277e04f611c3c391bacfac9f92ea121a34074eac3ca4446c128cc16bcf731", func := "loop.example/sagaflows/laws.FnChangeBehind", spec := "fnChangeBehind", inPlace := ["internal/bytealg.abigen_runtime_cmpstring"], unfollowed := true, recurses := true, apart := false, narrowed := true }
def FnChangeBehindUptoSaid : Prop := fnChangeBehindUptoRow.holds Try.pinned (OpenSpec.upto fnChangeBehindSpec)

/-- 'laws.FnChanges', WHERE WHAT IT READS IS OF BULK AT MOST 1048576: true; the input reads as it did. -/
def fnChangesUptoRow : OpenClaim := { program := "ytmnhnldnnniglaa", sum := "b6d277e04f611c3c391bacfac9f92ea121a34074eac3ca4446c128cc16bcf731", func := "loop.example/sagaflows/laws.FnChanges", spec := "fnChanges", inPlace := ["internal/bytealg.abigen_runtime_cmpstring"], unfollowed := true, recurses := true, apart := false, narrowed := true }
def FnChangesUptoSaid : Prop := fnChangesUptoRow.holds Try.pinned (OpenSpec.upto fnChangesSpec)

/-- 'laws.FnChangesOfKinds', WHERE WHAT IT READS IS OF BULK AT MOST 1048576: true; the input reads as it did. -/
def fnChangesOfKindsUptoRow : OpenClaim := { program := "ytmnhnldnnniglaa", sum := "b6d277e04f611c3c391bacfac9f92ea121a34074eac3ca4446c128cc16bcf731", func := "loop.example/sagaflows/laws.FnChangesOfKinds", spec := "fnChangesOfKinds", unfollowed := true, recurses := true, apart := false, narrowed := true }
def FnChangesOfKindsUptoSaid : Prop := fnChangesOfKindsUptoRow.holds Try.pinned (OpenSpec.upto fnChangesOfKindsSpec)

end Rows
end Go.Proofs.Ytmnhnldnnniglaa
