/-
  No cell of these rows narrows 'for every input' (looked for: loops, veiled, ifaces, maps, wideKeys, modest, calm, conditions, laid).
  DERIVED. THE GIVEN ROWS OF THIS SEAT. 8 by the template 'for every input the law returns true; each argument reads behind the call as it read before'; 0 by the template 'total and deterministic' (their statements: YthmifmpllgofkaaTotals.lean).
  GIVEN WITH THE SEED: the statements are not yours to turn. If you find one false, say at which input.
  Laid BY PROGRAM, IN A SANDBOX (cutbox-rows.mjs): the forced cells as the released guide's own fill.sh prints them over the translation 48f8089273be6cdb… (all of the seat's roots in one cut). By AI agents, Wed Nov 11 2026. No macro, syntax, notation, axiom, sorry.
-/
import Derived.Test.YthmifmpllgofkaaChecked
import GoSem.Claim
import GoSem.ClaimJoined
import GoSem.ClaimMapViews
import Derived.JoinedTies
import Derived.KernelRfl
namespace Go.Proofs.Ythmifmpllgofkaa
/- THE CELL 'sum', in the pinned program and in every row, IS THE sha256 OF THE DUMP (.gsa) THAT YthmifmpllgofkaaProg.lean LOADS. Nothing in Lean hashes anything: it is a label: what it is worth is what the hold of that sum in a sandbox is worth. -/
noncomputable def Try.pinned : Pinned := { name := "ythmifmpllgofkaa", sum := "48f8089273be6cdb65124073237419a338959afc61886aedacf17c1bca4152e5", checked := Try.checked }
namespace Rows
def none {H : Type} : Left H := { results := [], args := [] }

/-- 'laws.FnRegPart': WHATEVER THE INPUT: true; the input reads as it did. -/
def fnRegPartSpec : ChangeSpec := { name := "fnRegPart", fn := fun _ => fun
  | [d1, d2] => { results := [.lit (.bool true)], args := [d1, d2] }
  | _ => none }
def fnRegPartRow : OpenClaim := { program := "ythmifmpllgofkaa", sum := "48f8089273be6cdb65124073237419a338959afc61886aedacf17c1bca4152e5", func := "loop.example/sagaflows/laws.FnRegPart", spec := "fnRegPart", apart := false }
def FnRegPartSaid : Prop := fnRegPartRow.holds Try.pinned (OpenSpec.ofChange fnRegPartSpec)

/-- ITS FALSE NEIGHBOUR: 'it returns false'. Refute it at one input. -/
def fnRegPartWrong : ChangeSpec := { name := "fnRegPart", fn := fun _ => fun
  | [d1, d2] => { results := [.lit (.bool false)], args := [d1, d2] }
  | _ => none }
def FnRegPartWrongFalsely : Prop := fnRegPartRow.holds Try.pinned (OpenSpec.ofChange fnRegPartWrong)

/-- 'laws.FnExactChangesOf': WHATEVER THE INPUT: true; the input reads as it did. -/
def fnExactChangesOfSpec : ChangeSpec := { name := "fnExactChangesOf", fn := fun _ => fun
  | [d1, d2] => { results := [.lit (.bool true)], args := [d1, d2] }
  | _ => none }
def fnExactChangesOfRow : OpenClaim := { program := "ythmifmpllgofkaa", sum := "48f8089273be6cdb65124073237419a338959afc61886aedacf17c1bca4152e5", func := "loop.example/sagaflows/laws.FnExactChangesOf", spec := "fnExactChangesOf", unfollowed := true, recurses := true, apart := false }
def FnExactChangesOfSaid : Prop := fnExactChangesOfRow.holds Try.pinned (OpenSpec.ofChange fnExactChangesOfSpec)

/-- ITS FALSE NEIGHBOUR: 'it returns false'. Refute it at one input. -/
def fnExactChangesOfWrong : ChangeSpec := { name := "fnExactChangesOf", fn := fun _ => fun
  | [d1, d2] => { results := [.lit (.bool false)], args := [d1, d2] }
  | _ => none }
def FnExactChangesOfWrongFalsely : Prop := fnExactChangesOfRow.holds Try.pinned (OpenSpec.ofChange fnExactChangesOfWrong)

/-- 'laws.FnChangesOfNone': WHATEVER THE INPUT: true; the input reads as it did. -/
def fnChangesOfNoneSpec : ChangeSpec := { name := "fnChangesOfNone", fn := fun _ => fun
  | [d] => { results := [.lit (.bool true)], args := [d] }
  | _ => none }
def fnChangesOfNoneRow : OpenClaim := { program := "ythmifmpllgofkaa", sum := "48f8089273be6cdb65124073237419a338959afc61886aedacf17c1bca4152e5", func := "loop.example/sagaflows/laws.FnChangesOfNone", spec := "fnChangesOfNone", unfollowed := true, recurses := true, apart := false }
def FnChangesOfNoneSaid : Prop := fnChangesOfNoneRow.holds Try.pinned (OpenSpec.ofChange fnChangesOfNoneSpec)

/-- ITS FALSE NEIGHBOUR: 'it returns false'. Refute it at one input. -/
def fnChangesOfNoneWrong : ChangeSpec := { name := "fnChangesOfNone", fn := fun _ => fun
  | [d] => { results := [.lit (.bool false)], args := [d] }
  | _ => none }
def FnChangesOfNoneWrongFalsely : Prop := fnChangesOfNoneRow.holds Try.pinned (OpenSpec.ofChange fnChangesOfNoneWrong)

/-- 'laws.FnChange': WHATEVER THE INPUT: true; the input reads as it did. -/
def fnChangeSpec : ChangeSpec := { name := "fnChange", fn := fun _ => fun
  | [d] => { results := [.lit (.bool true)], args := [d] }
  | _ => none }
def fnChangeRow : OpenClaim := { program := "ythmifmpllgofkaa", sum := "48f8089273be6cdb65124073237419a338959afc61886aedacf17c1bca4152e5", func := "loop.example/sagaflows/laws.FnChange", spec := "fnChange", inPlace := ["internal/bytealg.abigen_runtime_cmpstring"], unfollowed := true, recurses := true, apart := false }
def FnChangeSaid : Prop := fnChangeRow.holds Try.pinned (OpenSpec.ofChange fnChangeSpec)

/-- ITS FALSE NEIGHBOUR: 'it returns false'. Refute it at one input. -/
def fnChangeWrong : ChangeSpec := { name := "fnChange", fn := fun _ => fun
  | [d] => { results := [.lit (.bool false)], args := [d] }
  | _ => none }
def FnChangeWrongFalsely : Prop := fnChangeRow.holds Try.pinned (OpenSpec.ofChange fnChangeWrong)

/-- 'laws.FnChangeStep': WHATEVER THE INPUT: true; the input reads as it did. -/
def fnChangeStepSpec : ChangeSpec := { name := "fnChangeStep", fn := fun _ => fun
  | [d] => { results := [.lit (.bool true)], args := [d] }
  | _ => none }
def fnChangeStepRow : OpenClaim := { program := "ythmifmpllgofkaa", sum := "48f8089273be6cdb65124073237419a338959afc61886aedacf17c1bca4152e5", func := "loop.example/sagaflows/laws.FnChangeStep", spec := "fnChangeStep", inPlace := ["internal/bytealg.abigen_runtime_cmpstring"], unfollowed := true, recurses := true, apart := false }
def FnChangeStepSaid : Prop := fnChangeStepRow.holds Try.pinned (OpenSpec.ofChange fnChangeStepSpec)

/-- ITS FALSE NEIGHBOUR: 'it returns false'. Refute it at one input. -/
def fnChangeStepWrong : ChangeSpec := { name := "fnChangeStep", fn := fun _ => fun
  | [d] => { results := [.lit (.bool false)], args := [d] }
  | _ => none }
def FnChangeStepWrongFalsely : Prop := fnChangeStepRow.holds Try.pinned (OpenSpec.ofChange fnChangeStepWrong)

/-- 'laws.FnChangeAddDrop': WHATEVER THE INPUT: true; the input reads as it did. -/
def fnChangeAddDropSpec : ChangeSpec := { name := "fnChangeAddDrop", fn := fun _ => fun
  | [d] => { results := [.lit (.bool true)], args := [d] }
  | _ => none }
def fnChangeAddDropRow : OpenClaim := { program := "ythmifmpllgofkaa", sum := "48f8089273be6cdb65124073237419a338959afc61886aedacf17c1bca4152e5", func := "loop.example/sagaflows/laws.FnChangeAddDrop", spec := "fnChangeAddDrop", inPlace := ["internal/bytealg.abigen_runtime_cmpstring"], unfollowed := true, recurses := true, apart := false }
def FnChangeAddDropSaid : Prop := fnChangeAddDropRow.holds Try.pinned (OpenSpec.ofChange fnChangeAddDropSpec)

/-- ITS FALSE NEIGHBOUR: 'it returns false'. Refute it at one input. -/
def fnChangeAddDropWrong : ChangeSpec := { name := "fnChangeAddDrop", fn := fun _ => fun
  | [d] => { results := [.lit (.bool false)], args := [d] }
  | _ => none }
def FnChangeAddDropWrongFalsely : Prop := fnChangeAddDropRow.holds Try.pinned (OpenSpec.ofChange fnChangeAddDropWrong)

/-- 'laws.FnChangeUndoBack': WHATEVER THE INPUT: true; the input reads as it did. -/
def fnChangeUndoBackSpec : ChangeSpec := { name := "fnChangeUndoBack", fn := fun _ => fun
  | [d] => { results := [.lit (.bool true)], args := [d] }
  | _ => none }
def fnChangeUndoBackRow : OpenClaim := { program := "ythmifmpllgofkaa", sum := "48f8089273be6cdb65124073237419a338959afc61886aedacf17c1bca4152e5", func := "loop.example/sagaflows/laws.FnChangeUndoBack", spec := "fnChangeUndoBack", inPlace := ["internal/bytealg.abigen_runtime_cmpstring"], unfollowed := true, recurses := true, apart := false }
def FnChangeUndoBackSaid : Prop := fnChangeUndoBackRow.holds Try.pinned (OpenSpec.ofChange fnChangeUndoBackSpec)

/-- ITS FALSE NEIGHBOUR: 'it returns false'. Refute it at one input. -/
def fnChangeUndoBackWrong : ChangeSpec := { name := "fnChangeUndoBack", fn := fun _ => fun
  | [d] => { results := [.lit (.bool false)], args := [d] }
  | _ => none }
def FnChangeUndoBackWrongFalsely : Prop := fnChangeUndoBackRow.holds Try.pinned (OpenSpec.ofChange fnChangeUndoBackWrong)

/-- 'laws.FnChangeOthers': WHATEVER THE INPUT: true; the input reads as it did. -/
def fnChangeOthersSpec : ChangeSpec := { name := "fnChangeOthers", fn := fun _ => fun
  | [d] => { results := [.lit (.bool true)], args := [d] }
  | _ => none }
def fnChangeOthersRow : OpenClaim := { program := "ythmifmpllgofkaa", sum := "48f8089273be6cdb65124073237419a338959afc61886aedacf17c1bca4152e5", func := "loop.example/sagaflows/laws.FnChangeOthers", spec := "fnChangeOthers", inPlace := ["internal/bytealg.abigen_runtime_cmpstring"], unfollowed := true, recurses := true, apart := false }
def FnChangeOthersSaid : Prop := fnChangeOthersRow.holds Try.pinned (OpenSpec.ofChange fnChangeOthersSpec)

/-- ITS FALSE NEIGHBOUR: 'it returns false'. Refute it at one input. -/
def fnChangeOthersWrong : ChangeSpec := { name := "fnChangeOthers", fn := fun _ => fun
  | [d] => { results := [.lit (.bool false)], args := [d] }
  | _ => none }
def FnChangeOthersWrongFalsely : Prop := fnChangeOthersRow.holds Try.pinned (OpenSpec.ofChange fnChangeOthersWrong)

/- THE SECOND FORM. 'bulk': how many values and letters a reading holds, each counted each time it is reached (what is shared counts as often as it is met; a slice's spare places count too). A statement '..UptoSaid' is the law's where the arguments, and the package variables that the reading takes, are together of bulk at most 1048576: NARROWER than '..Said'. Prove '..Said' where nothing that the law and all that it calls make is longer than what came in: it says more and counts as full. Else prove '..UptoSaid'. A law counts once. -/
mutual
def uptoBulk {H : Type} : DataW H → Nat
  | .lit (.string bytes) => bytes.length + 1
  | .lit _ => 1
  | .nil => 1
  | .ptr d => uptoBulk d + 1
  | .slice elems spare => uptoBulkAll elems + uptoBulkAll spare + 1
  | .agg parts => uptoBulkAll parts + 1
  | .iface _ d => uptoBulk d + 1
  | .map entries => uptoBulkEntries entries + 1
  | .held _ => 1
def uptoBulkAll {H : Type} : List (DataW H) → Nat
  | [] => 0
  | d :: r => uptoBulk d + uptoBulkAll r
def uptoBulkEntries {H : Type} : List (Lit × DataW H) → Nat
  | [] => 0
  | x :: r => uptoBulkEntry x + uptoBulkEntries r
def uptoBulkEntry {H : Type} : Lit × DataW H → Nat
  | (.string bytes, d) => bytes.length + uptoBulk d + 1
  | (_, d) => uptoBulk d + 1
 end
def uptoSmall : (H : Type) → List (DataW H) → Bool := fun _ ds => decide (uptoBulkAll ds ≤ 1048576)
def OpenSpec.upto (s : _root_.Go.ChangeSpec) : _root_.Go.OpenSpec := { _root_.Go.OpenSpec.ofChange s with cond := some uptoSmall }

/-- 'laws.FnRegPart', WHERE WHAT IT READS IS OF BULK AT MOST 1048576: true; the input reads as it did. -/
def fnRegPartUptoRow : OpenClaim := { program := "ythmifmpllgofkaa", sum := "48f8089273be6cdb65124073237419a338959afc61886aedacf17c1bca4152e5", func := "loop.example/sagaflows/laws.FnRegPart", spec := "fnRegPart", apart := false, narrowed := true }
def FnRegPartUptoSaid : Prop := fnRegPartUptoRow.holds Try.pinned (OpenSpec.upto fnRegPartSpec)

/-- 'laws.FnExactChangesOf', WHERE WHAT IT READS IS OF BULK AT MOST 1048576: true; the input reads as it did. -/
def fnExactChangesOfUptoRow : OpenClaim := { program := "ythmifmpllgofkaa", sum := "48f8089273be6cdb65124073237419a338959afc61886aedacf17c1bca4152e5", func := "loop.example/sagaflows/laws.FnExactChangesOf", spec := "fnExactChangesOf", unfollowed := true, recurses := true, apart := false, narrowed := true }
def FnExactChangesOfUptoSaid : Prop := fnExactChangesOfUptoRow.holds Try.pinned (OpenSpec.upto fnExactChangesOfSpec)

/-- 'laws.FnChangesOfNone', WHERE WHAT IT READS IS OF BULK AT MOST 1048576: true; the input reads as it did. -/
def fnChangesOfNoneUptoRow : OpenClaim := { program := "ythmifmpllgofkaa", sum := "48f8089273be6cdb65124073237419a338959afc61886aedacf17c1bca4152e5", func := "loop.example/sagaflows/laws.FnChangesOfNone", spec := "fnChangesOfNone", unfollowed := true, recurses := true, apart := false, narrowed := true }
def FnChangesOfNoneUptoSaid : Prop := fnChangesOfNoneUptoRow.holds Try.pinned (OpenSpec.upto fnChangesOfNoneSpec)

/-- 'laws.FnChange', WHERE WHAT IT READS IS OF BULK AT MOST 1048576: true; the input reads as it did. -/
def fnChangeUptoRow : OpenClaim := { program := "ythmifmpllgofkaa", sum := "48f8089273be6cdb65124073237419a338959afc61886aedacf17c1bca4152e5", func := "loop.example/sagaflows/laws.FnChange", spec := "fnChange", inPlace := ["internal/bytealg.abigen_runtime_cmpstring"], unfollowed := true, recurses := true, apart := false, narrowed := true }
def FnChangeUptoSaid : Prop := fnChangeUptoRow.holds Try.pinned (OpenSpec.upto fnChangeSpec)

/-- 'laws.FnChangeStep', WHERE WHAT IT READS IS OF BULK AT MOST 1048576: true; the input reads as it did. -/
def fnChangeStepUptoRow : OpenClaim := { program := "ythmifmpllgofkaa", sum := "48f8089273be6cdb65124073237419a338959afc61886aedacf17c1bca4152e5", func := "loop.example/sagaflows/laws.FnChangeStep", spec := "fnChangeStep", inPlace := ["internal/bytealg.abigen_runtime_cmpstring"], unfollowed := true, recurses := true, apart := false, narrowed := true }
def FnChangeStepUptoSaid : Prop := fnChangeStepUptoRow.holds Try.pinned (OpenSpec.upto fnChangeStepSpec)

/-- 'laws.FnChangeAddDrop', WHERE WHAT IT READS IS OF BULK AT MOST 1048576: true; the input reads as it did. -/
def fnChangeAddDropUptoRow : OpenClaim := { program := "ythmifmpllgofkaa", sum := "48f8089273be6cdb65124073237419a338959afc61886aedacf17c1bca4152e5", func := "loop.example/sagaflows/laws.FnChangeAddDrop", spec := "fnChangeAddDrop", inPlace := ["internal/bytealg.abigen_runtime_cmpstring"], unfollowed := true, recurses := true, apart := false, narrowed := true }
def FnChangeAddDropUptoSaid : Prop := fnChangeAddDropUptoRow.holds Try.pinned (OpenSpec.upto fnChangeAddDropSpec)

/-- 'laws.FnChangeUndoBack', WHERE WHAT IT READS IS OF BULK AT MOST 1048576: true; the input reads as it did. -/
def fnChangeUndoBackUptoRow : OpenClaim := { program := "ythmifmpllgofkaa", sum := "48f8089273be6cdb65124073237419a338959afc61886aedacf17c1bca4152e5", func := "loop.example/sagaflows/laws.FnChangeUndoBack", spec := "fnChangeUndoBack", inPlace := ["internal/bytealg.abigen_runtime_cmpstring"], unfollowed := true, recurses := true, apart := false, narrowed := true }
def FnChangeUndoBackUptoSaid : Prop := fnChangeUndoBackUptoRow.holds Try.pinned (OpenSpec.upto fnChangeUndoBackSpec)

/-- 'laws.FnChangeOthers', WHERE WHAT IT READS IS OF BULK AT MOST 1048576: true; the input reads as it did. -/
def fnChangeOthersUptoRow : OpenClaim := { program := "ythmifmpllgofkaa", sum := "48f8089273be6cdb65124073237419a338959afc61886aedacf17c1bca4152e5", func := "loop.example/sagaflows/laws.FnChangeOthers", spec := "fnChangeOthers", inPlace := ["internal/bytealg.abigen_runtime_cmpstring"], unfollowed := true, recurses := true, apart := false, narrowed := true }
def FnChangeOthersUptoSaid : Prop := fnChangeOthersUptoRow.holds Try.pinned (OpenSpec.upto fnChangeOthersSpec)

end Rows
end Go.Proofs.Ythmifmpllgofkaa
