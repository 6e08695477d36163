/-
  No cell of these rows narrows 'for every input' (looked for: loops, veiled, ifaces, maps, wideKeys, modest, calm, conditions, laid).
  DERIVED. THE GIVEN ROWS OF THIS SEAT. 11 by the template 'for every input the law returns true; each argument reads behind the call as it read before'; 0 by the template 'total and deterministic' (their statements: YtddifmlipmmlkaaTotals.lean).
  GIVEN WITH THE SEED: the statements are not yours to turn. If you find one false, say at which input.
  Laid BY PROGRAM, IN A SANDBOX (cutbox-rows.mjs): the forced cells as the released guide's own fill.sh prints them over the translation dcd7475c7900e7fd… (all of the seat's roots in one cut). By AI agents, Wed Nov 11 2026. No macro, syntax, notation, axiom, sorry.
-/
import Derived.Test.YtddifmlipmmlkaaChecked
import GoSem.Claim
import GoSem.ClaimJoined
import GoSem.ClaimMapViews
import Derived.JoinedTies
import Derived.KernelRfl
namespace Go.Proofs.Ytddifmlipmmlkaa
/- THE CELL 'sum', in the pinned program and in every row, IS THE sha256 OF THE DUMP (.gsa) THAT YtddifmlipmmlkaaProg.lean LOADS. Nothing in Lean hashes anything: it is a label: what it is worth is what the hold of that sum in a sandbox is worth. -/
noncomputable def Try.pinned : Pinned := { name := "ytddifmlipmmlkaa", sum := "dcd7475c7900e7fdd9415461e510252dadfcc08d1380bd0c520a1383364efa97", checked := Try.checked }
namespace Rows
def none {H : Type} : Left H := { results := [], args := [] }

/-- 'laws.FnTimersPart': WHATEVER THE INPUT: true; the input reads as it did. -/
def fnTimersPartSpec : ChangeSpec := { name := "fnTimersPart", fn := fun _ => fun
  | [d1, d2] => { results := [.lit (.bool true)], args := [d1, d2] }
  | _ => none }
def fnTimersPartRow : OpenClaim := { program := "ytddifmlipmmlkaa", sum := "dcd7475c7900e7fdd9415461e510252dadfcc08d1380bd0c520a1383364efa97", func := "loop.example/sagaflows/laws.FnTimersPart", spec := "fnTimersPart", apart := false }
def FnTimersPartSaid : Prop := fnTimersPartRow.holds Try.pinned (OpenSpec.ofChange fnTimersPartSpec)

/-- ITS FALSE NEIGHBOUR: 'it returns false'. Refute it at one input. -/
def fnTimersPartWrong : ChangeSpec := { name := "fnTimersPart", fn := fun _ => fun
  | [d1, d2] => { results := [.lit (.bool false)], args := [d1, d2] }
  | _ => none }
def FnTimersPartWrongFalsely : Prop := fnTimersPartRow.holds Try.pinned (OpenSpec.ofChange fnTimersPartWrong)

/-- 'laws.FnExactTimersValid': WHATEVER THE INPUT: true; the input reads as it did. -/
def fnExactTimersValidSpec : ChangeSpec := { name := "fnExactTimersValid", fn := fun _ => fun
  | [d] => { results := [.lit (.bool true)], args := [d] }
  | _ => none }
def fnExactTimersValidRow : OpenClaim := { program := "ytddifmlipmmlkaa", sum := "dcd7475c7900e7fdd9415461e510252dadfcc08d1380bd0c520a1383364efa97", func := "loop.example/sagaflows/laws.FnExactTimersValid", spec := "fnExactTimersValid", apart := false }
def FnExactTimersValidSaid : Prop := fnExactTimersValidRow.holds Try.pinned (OpenSpec.ofChange fnExactTimersValidSpec)

/-- ITS FALSE NEIGHBOUR: 'it returns false'. Refute it at one input. -/
def fnExactTimersValidWrong : ChangeSpec := { name := "fnExactTimersValid", fn := fun _ => fun
  | [d] => { results := [.lit (.bool false)], args := [d] }
  | _ => none }
def FnExactTimersValidWrongFalsely : Prop := fnExactTimersValidRow.holds Try.pinned (OpenSpec.ofChange fnExactTimersValidWrong)

/-- 'laws.FnDue': WHATEVER THE INPUT: true; the input reads as it did. -/
def fnDueSpec : ChangeSpec := { name := "fnDue", fn := fun _ => fun
  | [d] => { results := [.lit (.bool true)], args := [d] }
  | _ => none }
def fnDueRow : OpenClaim := { program := "ytddifmlipmmlkaa", sum := "dcd7475c7900e7fdd9415461e510252dadfcc08d1380bd0c520a1383364efa97", func := "loop.example/sagaflows/laws.FnDue", spec := "fnDue", apart := false }
def FnDueSaid : Prop := fnDueRow.holds Try.pinned (OpenSpec.ofChange fnDueSpec)

/-- ITS FALSE NEIGHBOUR: 'it returns false'. Refute it at one input. -/
def fnDueWrong : ChangeSpec := { name := "fnDue", fn := fun _ => fun
  | [d] => { results := [.lit (.bool false)], args := [d] }
  | _ => none }
def FnDueWrongFalsely : Prop := fnDueRow.holds Try.pinned (OpenSpec.ofChange fnDueWrong)

/-- 'laws.FnRegPart': WHATEVER THE INPUT: true; the input reads as it did. -/
def fnRegPartSpec : ChangeSpec := { name := "fnRegPart", fn := fun _ => fun
  | [d1, d2] => { results := [.lit (.bool true)], args := [d1, d2] }
  | _ => none }
def fnRegPartRow : OpenClaim := { program := "ytddifmlipmmlkaa", sum := "dcd7475c7900e7fdd9415461e510252dadfcc08d1380bd0c520a1383364efa97", func := "loop.example/sagaflows/laws.FnRegPart", spec := "fnRegPart", apart := false }
def FnRegPartSaid : Prop := fnRegPartRow.holds Try.pinned (OpenSpec.ofChange fnRegPartSpec)

/-- ITS FALSE NEIGHBOUR: 'it returns false'. Refute it at one input. -/
def fnRegPartWrong : ChangeSpec := { name := "fnRegPart", fn := fun _ => fun
  | [d1, d2] => { results := [.lit (.bool false)], args := [d1, d2] }
  | _ => none }
def FnRegPartWrongFalsely : Prop := fnRegPartRow.holds Try.pinned (OpenSpec.ofChange fnRegPartWrong)

/-- 'laws.FnFitNewBoth': WHATEVER THE INPUT: true; the input reads as it did. -/
def fnFitNewBothSpec : ChangeSpec := { name := "fnFitNewBoth", fn := fun _ => fun
  | [d] => { results := [.lit (.bool true)], args := [d] }
  | _ => none }
def fnFitNewBothRow : OpenClaim := { program := "ytddifmlipmmlkaa", sum := "dcd7475c7900e7fdd9415461e510252dadfcc08d1380bd0c520a1383364efa97", func := "loop.example/sagaflows/laws.FnFitNewBoth", spec := "fnFitNewBoth", unfollowed := true, recurses := true, apart := false }
def FnFitNewBothSaid : Prop := fnFitNewBothRow.holds Try.pinned (OpenSpec.ofChange fnFitNewBothSpec)

/-- ITS FALSE NEIGHBOUR: 'it returns false'. Refute it at one input. -/
def fnFitNewBothWrong : ChangeSpec := { name := "fnFitNewBoth", fn := fun _ => fun
  | [d] => { results := [.lit (.bool false)], args := [d] }
  | _ => none }
def FnFitNewBothWrongFalsely : Prop := fnFitNewBothRow.holds Try.pinned (OpenSpec.ofChange fnFitNewBothWrong)

/-- 'laws.FnFitNew': WHATEVER THE INPUT: true; the input reads as it did. -/
def fnFitNewSpec : ChangeSpec := { name := "fnFitNew", fn := fun _ => fun
  | [d] => { results := [.lit (.bool true)], args := [d] }
  | _ => none }
def fnFitNewRow : OpenClaim := { program := "ytddifmlipmmlkaa", sum := "dcd7475c7900e7fdd9415461e510252dadfcc08d1380bd0c520a1383364efa97", func := "loop.example/sagaflows/laws.FnFitNew", spec := "fnFitNew", unfollowed := true, recurses := true, apart := false }
def FnFitNewSaid : Prop := fnFitNewRow.holds Try.pinned (OpenSpec.ofChange fnFitNewSpec)

/-- ITS FALSE NEIGHBOUR: 'it returns false'. Refute it at one input. -/
def fnFitNewWrong : ChangeSpec := { name := "fnFitNew", fn := fun _ => fun
  | [d] => { results := [.lit (.bool false)], args := [d] }
  | _ => none }
def FnFitNewWrongFalsely : Prop := fnFitNewRow.holds Try.pinned (OpenSpec.ofChange fnFitNewWrong)

/-- 'laws.FnExactFitBad': WHATEVER THE INPUT: true; the input reads as it did. -/
def fnExactFitBadSpec : ChangeSpec := { name := "fnExactFitBad", fn := fun _ => fun
  | [d1, d2] => { results := [.lit (.bool true)], args := [d1, d2] }
  | _ => none }
def fnExactFitBadRow : OpenClaim := { program := "ytddifmlipmmlkaa", sum := "dcd7475c7900e7fdd9415461e510252dadfcc08d1380bd0c520a1383364efa97", func := "loop.example/sagaflows/laws.FnExactFitBad", spec := "fnExactFitBad", unfollowed := true, recurses := true, apart := false }
def FnExactFitBadSaid : Prop := fnExactFitBadRow.holds Try.pinned (OpenSpec.ofChange fnExactFitBadSpec)

/-- ITS FALSE NEIGHBOUR: 'it returns false'. Refute it at one input. -/
def fnExactFitBadWrong : ChangeSpec := { name := "fnExactFitBad", fn := fun _ => fun
  | [d1, d2] => { results := [.lit (.bool false)], args := [d1, d2] }
  | _ => none }
def FnExactFitBadWrongFalsely : Prop := fnExactFitBadRow.holds Try.pinned (OpenSpec.ofChange fnExactFitBadWrong)

/-- 'laws.FnExactRegistryValid': WHATEVER THE INPUT: true; the input reads as it did. -/
def fnExactRegistryValidSpec : ChangeSpec := { name := "fnExactRegistryValid", fn := fun _ => fun
  | [d] => { results := [.lit (.bool true)], args := [d] }
  | _ => none }
def fnExactRegistryValidRow : OpenClaim := { program := "ytddifmlipmmlkaa", sum := "dcd7475c7900e7fdd9415461e510252dadfcc08d1380bd0c520a1383364efa97", func := "loop.example/sagaflows/laws.FnExactRegistryValid", spec := "fnExactRegistryValid", apart := false }
def FnExactRegistryValidSaid : Prop := fnExactRegistryValidRow.holds Try.pinned (OpenSpec.ofChange fnExactRegistryValidSpec)

/-- ITS FALSE NEIGHBOUR: 'it returns false'. Refute it at one input. -/
def fnExactRegistryValidWrong : ChangeSpec := { name := "fnExactRegistryValid", fn := fun _ => fun
  | [d] => { results := [.lit (.bool false)], args := [d] }
  | _ => none }
def FnExactRegistryValidWrongFalsely : Prop := fnExactRegistryValidRow.holds Try.pinned (OpenSpec.ofChange fnExactRegistryValidWrong)

/-- 'laws.FnExactFlowsSame': WHATEVER THE INPUT: true; the input reads as it did. -/
def fnExactFlowsSameSpec : ChangeSpec := { name := "fnExactFlowsSame", fn := fun _ => fun
  | [d1, d2] => { results := [.lit (.bool true)], args := [d1, d2] }
  | _ => none }
def fnExactFlowsSameRow : OpenClaim := { program := "ytddifmlipmmlkaa", sum := "dcd7475c7900e7fdd9415461e510252dadfcc08d1380bd0c520a1383364efa97", func := "loop.example/sagaflows/laws.FnExactFlowsSame", spec := "fnExactFlowsSame", unfollowed := true, recurses := true, apart := false }
def FnExactFlowsSameSaid : Prop := fnExactFlowsSameRow.holds Try.pinned (OpenSpec.ofChange fnExactFlowsSameSpec)

/-- ITS FALSE NEIGHBOUR: 'it returns false'. Refute it at one input. -/
def fnExactFlowsSameWrong : ChangeSpec := { name := "fnExactFlowsSame", fn := fun _ => fun
  | [d1, d2] => { results := [.lit (.bool false)], args := [d1, d2] }
  | _ => none }
def FnExactFlowsSameWrongFalsely : Prop := fnExactFlowsSameRow.holds Try.pinned (OpenSpec.ofChange fnExactFlowsSameWrong)

/-- 'laws.FnRegFind': WHATEVER THE INPUT: true; the input reads as it did. -/
def fnRegFindSpec : ChangeSpec := { name := "fnRegFind", fn := fun _ => fun
  | [d] => { results := [.lit (.bool true)], args := [d] }
  | _ => none }
def fnRegFindRow : OpenClaim := { program := "ytddifmlipmmlkaa", sum := "dcd7475c7900e7fdd9415461e510252dadfcc08d1380bd0c520a1383364efa97", func := "loop.example/sagaflows/laws.FnRegFind", spec := "fnRegFind", unfollowed := true, recurses := true, apart := false }
def FnRegFindSaid : Prop := fnRegFindRow.holds Try.pinned (OpenSpec.ofChange fnRegFindSpec)

/-- ITS FALSE NEIGHBOUR: 'it returns false'. Refute it at one input. -/
def fnRegFindWrong : ChangeSpec := { name := "fnRegFind", fn := fun _ => fun
  | [d] => { results := [.lit (.bool false)], args := [d] }
  | _ => none }
def FnRegFindWrongFalsely : Prop := fnRegFindRow.holds Try.pinned (OpenSpec.ofChange fnRegFindWrong)

/-- 'laws.FnExactFitNew': WHATEVER THE INPUT: true; the input reads as it did. -/
def fnExactFitNewSpec : ChangeSpec := { name := "fnExactFitNew", fn := fun _ => fun
  | [d1, d2] => { results := [.lit (.bool true)], args := [d1, d2] }
  | _ => none }
def fnExactFitNewRow : OpenClaim := { program := "ytddifmlipmmlkaa", sum := "dcd7475c7900e7fdd9415461e510252dadfcc08d1380bd0c520a1383364efa97", func := "loop.example/sagaflows/laws.FnExactFitNew", spec := "fnExactFitNew", unfollowed := true, recurses := true, apart := false }
def FnExactFitNewSaid : Prop := fnExactFitNewRow.holds Try.pinned (OpenSpec.ofChange fnExactFitNewSpec)

/-- ITS FALSE NEIGHBOUR: 'it returns false'. Refute it at one input. -/
def fnExactFitNewWrong : ChangeSpec := { name := "fnExactFitNew", fn := fun _ => fun
  | [d1, d2] => { results := [.lit (.bool false)], args := [d1, d2] }
  | _ => none }
def FnExactFitNewWrongFalsely : Prop := fnExactFitNewRow.holds Try.pinned (OpenSpec.ofChange fnExactFitNewWrong)

/- THE SECOND FORM. 'bulk': how many values and letters a reading holds, each counted each time it is reached (what is shared counts as often as it is met; a slice's spare places count too). A statement '..UptoSaid' is the law's where the arguments, and the package variables that the reading takes, are together of bulk at most 1048576: NARROWER than '..Said'. Prove '..Said' where nothing that the law and all that it calls make is longer than what came in: it says more and counts as full. Else prove '..UptoSaid'. A law counts once. -/
mutual
def uptoBulk {H : Type} : DataW H → Nat
  | .lit (.string bytes) => bytes.length + 1
  | .lit _ => 1
  | .nil => 1
  | .ptr d => uptoBulk d + 1
  | .slice elems spare => uptoBulkAll elems + uptoBulkAll spare + 1
  | .agg parts => uptoBulkAll parts + 1
  | .iface _ d => uptoBulk d + 1
  | .map entries => uptoBulkEntries entries + 1
  | .held _ => 1
def uptoBulkAll {H : Type} : List (DataW H) → Nat
  | [] => 0
  | d :: r => uptoBulk d + uptoBulkAll r
def uptoBulkEntries {H : Type} : List (Lit × DataW H) → Nat
  | [] => 0
  | x :: r => uptoBulkEntry x + uptoBulkEntries r
def uptoBulkEntry {H : Type} : Lit × DataW H → Nat
  | (.string bytes, d) => bytes.length + uptoBulk d + 1
  | (_, d) => uptoBulk d + 1
 end
def uptoSmall : (H : Type) → List (DataW H) → Bool := fun _ ds => decide (uptoBulkAll ds ≤ 1048576)
def OpenSpec.upto (s : _root_.Go.ChangeSpec) : _root_.Go.OpenSpec := { _root_.Go.OpenSpec.ofChange s with cond := some uptoSmall }

/-- 'laws.FnTimersPart', WHERE WHAT IT READS IS OF BULK AT MOST 1048576: true; the input reads as it did. -/
def fnTimersPartUptoRow : OpenClaim := { program := "ytddifmlipmmlkaa", sum := "dcd7475c7900e7fdd9415461e510252dadfcc08d1380bd0c520a1383364efa97", func := "loop.example/sagaflows/laws.FnTimersPart", spec := "fnTimersPart", apart := false, narrowed := true }
def FnTimersPartUptoSaid : Prop := fnTimersPartUptoRow.holds Try.pinned (OpenSpec.upto fnTimersPartSpec)

/-- 'laws.FnExactTimersValid', WHERE WHAT IT READS IS OF BULK AT MOST 1048576: true; the input reads as it did. -/
def fnExactTimersValidUptoRow : OpenClaim := { program := "ytddifmlipmmlkaa", sum := "dcd7475c7900e7fdd9415461e510252dadfcc08d1380bd0c520a1383364efa97", func := "loop.example/sagaflows/laws.FnExactTimersValid", spec := "fnExactTimersValid", apart := false, narrowed := true }
def FnExactTimersValidUptoSaid : Prop := fnExactTimersValidUptoRow.holds Try.pinned (OpenSpec.upto fnExactTimersValidSpec)

/-- 'laws.FnDue', WHERE WHAT IT READS IS OF BULK AT MOST 1048576: true; the input reads as it did. -/
def fnDueUptoRow : OpenClaim := { program := "ytddifmlipmmlkaa", sum := "dcd7475c7900e7fdd9415461e510252dadfcc08d1380bd0c520a1383364efa97", func := "loop.example/sagaflows/laws.FnDue", spec := "fnDue", apart := false, narrowed := true }
def FnDueUptoSaid : Prop := fnDueUptoRow.holds Try.pinned (OpenSpec.upto fnDueSpec)

/-- 'laws.FnRegPart', WHERE WHAT IT READS IS OF BULK AT MOST 1048576: true; the input reads as it did. -/
def fnRegPartUptoRow : OpenClaim := { program := "ytddifmlipmmlkaa", sum := "dcd7475c7900e7fdd9415461e510252dadfcc08d1380bd0c520a1383364efa97", func := "loop.example/sagaflows/laws.FnRegPart", spec := "fnRegPart", apart := false, narrowed := true }
def FnRegPartUptoSaid : Prop := fnRegPartUptoRow.holds Try.pinned (OpenSpec.upto fnRegPartSpec)

/-- 'laws.FnFitNewBoth', WHERE WHAT IT READS IS OF BULK AT MOST 1048576: true; the input reads as it did. -/
def fnFitNewBothUptoRow : OpenClaim := { program := "ytddifmlipmmlkaa", sum := "dcd7475c7900e7fdd9415461e510252dadfcc08d1380bd0c520a1383364efa97", func := "loop.example/sagaflows/laws.FnFitNewBoth", spec := "fnFitNewBoth", unfollowed := true, recurses := true, apart := false, narrowed := true }
def FnFitNewBothUptoSaid : Prop := fnFitNewBothUptoRow.holds Try.pinned (OpenSpec.upto fnFitNewBothSpec)

/-- 'laws.FnFitNew', WHERE WHAT IT READS IS OF BULK AT MOST 1048576: true; the input reads as it did. -/
def fnFitNewUptoRow : OpenClaim := { program := "ytddifmlipmmlkaa", sum := "dcd7475c7900e7fdd9415461e510252dadfcc08d1380bd0c520a1383364efa97", func := "loop.example/sagaflows/laws.FnFitNew", spec := "fnFitNew", unfollowed := true, recurses := true, apart := false, narrowed := true }
def FnFitNewUptoSaid : Prop := fnFitNewUptoRow.holds Try.pinned (OpenSpec.upto fnFitNewSpec)

/-- 'laws.FnExactFitBad', WHERE WHAT IT READS IS OF BULK AT MOST 1048576: true; the input reads as it did. -/
def fnExactFitBadUptoRow : OpenClaim := { program := "ytddifmlipmmlkaa", sum := "dcd7475c7900e7fdd9415461e510252dadfcc08d1380bd0c520a1383364efa97", func := "loop.example/sagaflows/laws.FnExactFitBad", spec := "fnExactFitBad", unfollowed := true, recurses := true, apart := false, narrowed := true }
def FnExactFitBadUptoSaid : Prop := fnExactFitBadUptoRow.holds Try.pinned (OpenSpec.upto fnExactFitBadSpec)

/-- 'laws.FnExactRegistryValid', WHERE WHAT IT READS IS OF BULK AT MOST 1048576: true; the input reads as it did. -/
def fnExactRegistryValidUptoRow : OpenClaim := { program := "ytddifmlipmmlkaa", sum := "dcd7475c7900e7fdd9415461e510252dadfcc08d1380bd0c520a1383364efa97", func := "loop.example/sagaflows/laws.FnExactRegistryValid", spec := "fnExactRegistryValid", apart := false, narrowed := true }
def FnExactRegistryValidUptoSaid : Prop := fnExactRegistryValidUptoRow.holds Try.pinned (OpenSpec.upto fnExactRegistryValidSpec)

/-- 'laws.FnExactFlowsSame', WHERE WHAT IT READS IS OF BULK AT MOST 1048576: true; the input reads as it did. -/
def fnExactFlowsSameUptoRow : OpenClaim := { program := "ytddifmlipmmlkaa", sum := "dcd7475c7900e7fdd9415461e510252dadfcc08d1380bd0c520a1383364efa97", func := "loop.example/sagaflows/laws.FnExactFlowsSame", spec := "fnExactFlowsSame", unfollowed := true, recurses := true, apart := false, narrowed := true }
def FnExactFlowsSameUptoSaid : Prop := fnExactFlowsSameUptoRow.holds Try.pinned (OpenSpec.upto fnExactFlowsSameSpec)

/-- 'laws.FnRegFind', WHERE WHAT IT READS IS OF BULK AT MOST 1048576: true; the input reads as it did. -/
def fnRegFindUptoRow : OpenClaim := { program := "ytddifmlipmmlkaa", sum := "dcd7475c7900e7fdd9415461e510252dadfcc08d1380bd0c520a1383364efa97", func := "loop.example/sagaflows/laws.FnRegFind", spec := "fnRegFind", unfollowed := true, recurses := true, apart := false, narrowed := true }
def FnRegFindUptoSaid : Prop := fnRegFindUptoRow.holds Try.pinned (OpenSpec.upto fnRegFindSpec)

/-- 'laws.FnExactFitNew', WHERE WHAT IT READS IS OF BULK AT MOST 1048576: true; the input reads as it did. -/
def fnExactFitNewUptoRow : OpenClaim := { program := "ytddifmlipmmlkaa", sum := "dcd7475c7900e7fdd9415461e510252dadfcc08d1380bd0c520a1383364efa97", func := "loop.example/sagaflows/laws.FnExactFitNew", spec := "fnExactFitNew", unfollowed := true, recurses := true, apart := false, narrowed := true }
def FnExactFitNewUptoSaid : Prop := fnExactFitNewUptoRow.holds Try.pinned (OpenSpec.upto fnExactFitNewSpec)

end Rows
end Go.Proofs.Ytddifmlipmmlkaa
