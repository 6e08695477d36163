/-
  No cell of these rows narrows 'for every input' (looked for: loops, veiled, ifaces, maps, wideKeys, modest, calm, conditions, laid).
  DERIVED. THE GIVEN ROWS OF THIS SEAT. 12 by the template 'for every input the law returns true; each argument reads behind the call as it read before'; 0 by the template 'total and deterministic' (their statements: YtlcckcifnpjbpaaTotals.lean).
  GIVEN WITH THE SEED: the statements are not yours to turn. If you find one false, say at which input.
  Laid BY PROGRAM, IN A SANDBOX (cutbox-rows.mjs): the forced cells as the released guide's own fill.sh prints them over the translation 6a12e1a717f8a3a3… (all of the seat's roots in one cut). By AI agents, Wed Nov 11 2026. No macro, syntax, notation, axiom, sorry.
-/
import Derived.Test.YtlcckcifnpjbpaaChecked
import GoSem.Claim
import GoSem.ClaimJoined
import GoSem.ClaimMapViews
import Derived.JoinedTies
import Derived.KernelRfl
namespace Go.Proofs.Ytlcckcifnpjbpaa
/- THE CELL 'sum', in the pinned program and in every row, IS THE sha256 OF THE DUMP (.gsa) THAT YtlcckcifnpjbpaaProg.lean LOADS. Nothing in Lean hashes anything: it is a label: what it is worth is what the hold of that sum in a sandbox is worth. -/
noncomputable def Try.pinned : Pinned := { name := "ytlcckcifnpjbpaa", sum := "6a12e1a717f8a3a3a3f9c3608039f3e1f9cb8dd9241868b75ca52c327efd6e7e", checked := Try.checked }
namespace Rows
def none {H : Type} : Left H := { results := [], args := [] }

/-- 'laws.FnPut': WHATEVER THE INPUT: true; the input reads as it did. -/
def fnPutSpec : ChangeSpec := { name := "fnPut", fn := fun _ => fun
  | [d] => { results := [.lit (.bool true)], args := [d] }
  | _ => none }
def fnPutRow : OpenClaim := { program := "ytlcckcifnpjbpaa", sum := "6a12e1a717f8a3a3a3f9c3608039f3e1f9cb8dd9241868b75ca52c327efd6e7e", func := "loop.example/sagaflows/laws.FnPut", spec := "fnPut", unfollowed := true, recurses := true, apart := false }
def FnPutSaid : Prop := fnPutRow.holds Try.pinned (OpenSpec.ofChange fnPutSpec)

/-- ITS FALSE NEIGHBOUR: 'it returns false'. Refute it at one input. -/
def fnPutWrong : ChangeSpec := { name := "fnPut", fn := fun _ => fun
  | [d] => { results := [.lit (.bool false)], args := [d] }
  | _ => none }
def FnPutWrongFalsely : Prop := fnPutRow.holds Try.pinned (OpenSpec.ofChange fnPutWrong)

/-- 'laws.FnRegDropUsed': WHATEVER THE INPUT: true; the input reads as it did. -/
def fnRegDropUsedSpec : ChangeSpec := { name := "fnRegDropUsed", fn := fun _ => fun
  | [d] => { results := [.lit (.bool true)], args := [d] }
  | _ => none }
def fnRegDropUsedRow : OpenClaim := { program := "ytlcckcifnpjbpaa", sum := "6a12e1a717f8a3a3a3f9c3608039f3e1f9cb8dd9241868b75ca52c327efd6e7e", func := "loop.example/sagaflows/laws.FnRegDropUsed", spec := "fnRegDropUsed", unfollowed := true, recurses := true, apart := false }
def FnRegDropUsedSaid : Prop := fnRegDropUsedRow.holds Try.pinned (OpenSpec.ofChange fnRegDropUsedSpec)

/-- ITS FALSE NEIGHBOUR: 'it returns false'. Refute it at one input. -/
def fnRegDropUsedWrong : ChangeSpec := { name := "fnRegDropUsed", fn := fun _ => fun
  | [d] => { results := [.lit (.bool false)], args := [d] }
  | _ => none }
def FnRegDropUsedWrongFalsely : Prop := fnRegDropUsedRow.holds Try.pinned (OpenSpec.ofChange fnRegDropUsedWrong)

/-- 'laws.FnRegDrop': WHATEVER THE INPUT: true; the input reads as it did. -/
def fnRegDropSpec : ChangeSpec := { name := "fnRegDrop", fn := fun _ => fun
  | [d] => { results := [.lit (.bool true)], args := [d] }
  | _ => none }
def fnRegDropRow : OpenClaim := { program := "ytlcckcifnpjbpaa", sum := "6a12e1a717f8a3a3a3f9c3608039f3e1f9cb8dd9241868b75ca52c327efd6e7e", func := "loop.example/sagaflows/laws.FnRegDrop", spec := "fnRegDrop", unfollowed := true, recurses := true, apart := false }
def FnRegDropSaid : Prop := fnRegDropRow.holds Try.pinned (OpenSpec.ofChange fnRegDropSpec)

/-- ITS FALSE NEIGHBOUR: 'it returns false'. Refute it at one input. -/
def fnRegDropWrong : ChangeSpec := { name := "fnRegDrop", fn := fun _ => fun
  | [d] => { results := [.lit (.bool false)], args := [d] }
  | _ => none }
def FnRegDropWrongFalsely : Prop := fnRegDropRow.holds Try.pinned (OpenSpec.ofChange fnRegDropWrong)

/-- 'laws.FnPutFind': WHATEVER THE INPUT: true; the input reads as it did. -/
def fnPutFindSpec : ChangeSpec := { name := "fnPutFind", fn := fun _ => fun
  | [d] => { results := [.lit (.bool true)], args := [d] }
  | _ => none }
def fnPutFindRow : OpenClaim := { program := "ytlcckcifnpjbpaa", sum := "6a12e1a717f8a3a3a3f9c3608039f3e1f9cb8dd9241868b75ca52c327efd6e7e", func := "loop.example/sagaflows/laws.FnPutFind", spec := "fnPutFind", unfollowed := true, recurses := true, apart := false }
def FnPutFindSaid : Prop := fnPutFindRow.holds Try.pinned (OpenSpec.ofChange fnPutFindSpec)

/-- ITS FALSE NEIGHBOUR: 'it returns false'. Refute it at one input. -/
def fnPutFindWrong : ChangeSpec := { name := "fnPutFind", fn := fun _ => fun
  | [d] => { results := [.lit (.bool false)], args := [d] }
  | _ => none }
def FnPutFindWrongFalsely : Prop := fnPutFindRow.holds Try.pinned (OpenSpec.ofChange fnPutFindWrong)

/-- 'laws.FnSameVersion': WHATEVER THE INPUT: true; the input reads as it did. -/
def fnSameVersionSpec : ChangeSpec := { name := "fnSameVersion", fn := fun _ => fun
  | [d] => { results := [.lit (.bool true)], args := [d] }
  | _ => none }
def fnSameVersionRow : OpenClaim := { program := "ytlcckcifnpjbpaa", sum := "6a12e1a717f8a3a3a3f9c3608039f3e1f9cb8dd9241868b75ca52c327efd6e7e", func := "loop.example/sagaflows/laws.FnSameVersion", spec := "fnSameVersion", unfollowed := true, recurses := true, apart := false }
def FnSameVersionSaid : Prop := fnSameVersionRow.holds Try.pinned (OpenSpec.ofChange fnSameVersionSpec)

/-- ITS FALSE NEIGHBOUR: 'it returns false'. Refute it at one input. -/
def fnSameVersionWrong : ChangeSpec := { name := "fnSameVersion", fn := fun _ => fun
  | [d] => { results := [.lit (.bool false)], args := [d] }
  | _ => none }
def FnSameVersionWrongFalsely : Prop := fnSameVersionRow.holds Try.pinned (OpenSpec.ofChange fnSameVersionWrong)

/-- 'laws.FnExactRegistryFind': WHATEVER THE INPUT: true; the input reads as it did. -/
def fnExactRegistryFindSpec : ChangeSpec := { name := "fnExactRegistryFind", fn := fun _ => fun
  | [d1, d2] => { results := [.lit (.bool true)], args := [d1, d2] }
  | _ => none }
def fnExactRegistryFindRow : OpenClaim := { program := "ytlcckcifnpjbpaa", sum := "6a12e1a717f8a3a3a3f9c3608039f3e1f9cb8dd9241868b75ca52c327efd6e7e", func := "loop.example/sagaflows/laws.FnExactRegistryFind", spec := "fnExactRegistryFind", unfollowed := true, recurses := true, apart := false }
def FnExactRegistryFindSaid : Prop := fnExactRegistryFindRow.holds Try.pinned (OpenSpec.ofChange fnExactRegistryFindSpec)

/-- ITS FALSE NEIGHBOUR: 'it returns false'. Refute it at one input. -/
def fnExactRegistryFindWrong : ChangeSpec := { name := "fnExactRegistryFind", fn := fun _ => fun
  | [d1, d2] => { results := [.lit (.bool false)], args := [d1, d2] }
  | _ => none }
def FnExactRegistryFindWrongFalsely : Prop := fnExactRegistryFindRow.holds Try.pinned (OpenSpec.ofChange fnExactRegistryFindWrong)

/-- 'laws.FnExactRegistryPut': WHATEVER THE INPUT: true; the input reads as it did. -/
def fnExactRegistryPutSpec : ChangeSpec := { name := "fnExactRegistryPut", fn := fun _ => fun
  | [d1, d2] => { results := [.lit (.bool true)], args := [d1, d2] }
  | _ => none }
def fnExactRegistryPutRow : OpenClaim := { program := "ytlcckcifnpjbpaa", sum := "6a12e1a717f8a3a3a3f9c3608039f3e1f9cb8dd9241868b75ca52c327efd6e7e", func := "loop.example/sagaflows/laws.FnExactRegistryPut", spec := "fnExactRegistryPut", apart := false }
def FnExactRegistryPutSaid : Prop := fnExactRegistryPutRow.holds Try.pinned (OpenSpec.ofChange fnExactRegistryPutSpec)

/-- ITS FALSE NEIGHBOUR: 'it returns false'. Refute it at one input. -/
def fnExactRegistryPutWrong : ChangeSpec := { name := "fnExactRegistryPut", fn := fun _ => fun
  | [d1, d2] => { results := [.lit (.bool false)], args := [d1, d2] }
  | _ => none }
def FnExactRegistryPutWrongFalsely : Prop := fnExactRegistryPutRow.holds Try.pinned (OpenSpec.ofChange fnExactRegistryPutWrong)

/-- 'laws.FnExactFitRun': WHATEVER THE INPUT: true; the input reads as it did. -/
def fnExactFitRunSpec : ChangeSpec := { name := "fnExactFitRun", fn := fun _ => fun
  | [d1, d2, d3] => { results := [.lit (.bool true)], args := [d1, d2, d3] }
  | _ => none }
def fnExactFitRunRow : OpenClaim := { program := "ytlcckcifnpjbpaa", sum := "6a12e1a717f8a3a3a3f9c3608039f3e1f9cb8dd9241868b75ca52c327efd6e7e", func := "loop.example/sagaflows/laws.FnExactFitRun", spec := "fnExactFitRun", unfollowed := true, recurses := true, apart := false }
def FnExactFitRunSaid : Prop := fnExactFitRunRow.holds Try.pinned (OpenSpec.ofChange fnExactFitRunSpec)

/-- ITS FALSE NEIGHBOUR: 'it returns false'. Refute it at one input. -/
def fnExactFitRunWrong : ChangeSpec := { name := "fnExactFitRun", fn := fun _ => fun
  | [d1, d2, d3] => { results := [.lit (.bool false)], args := [d1, d2, d3] }
  | _ => none }
def FnExactFitRunWrongFalsely : Prop := fnExactFitRunRow.holds Try.pinned (OpenSpec.ofChange fnExactFitRunWrong)

/-- 'laws.FnExactMoveBoth': WHATEVER THE INPUT: true; the input reads as it did. -/
def fnExactMoveBothSpec : ChangeSpec := { name := "fnExactMoveBoth", fn := fun _ => fun
  | [d1, d2, d3, d4] => { results := [.lit (.bool true)], args := [d1, d2, d3, d4] }
  | _ => none }
def fnExactMoveBothRow : OpenClaim := { program := "ytlcckcifnpjbpaa", sum := "6a12e1a717f8a3a3a3f9c3608039f3e1f9cb8dd9241868b75ca52c327efd6e7e", func := "loop.example/sagaflows/laws.FnExactMoveBoth", spec := "fnExactMoveBoth", unfollowed := true, recurses := true, apart := false }
def FnExactMoveBothSaid : Prop := fnExactMoveBothRow.holds Try.pinned (OpenSpec.ofChange fnExactMoveBothSpec)

/-- ITS FALSE NEIGHBOUR: 'it returns false'. Refute it at one input. -/
def fnExactMoveBothWrong : ChangeSpec := { name := "fnExactMoveBoth", fn := fun _ => fun
  | [d1, d2, d3, d4] => { results := [.lit (.bool false)], args := [d1, d2, d3, d4] }
  | _ => none }
def FnExactMoveBothWrongFalsely : Prop := fnExactMoveBothRow.holds Try.pinned (OpenSpec.ofChange fnExactMoveBothWrong)

/-- 'laws.FnSame': WHATEVER THE INPUT: true; the input reads as it did. -/
def fnSameSpec : ChangeSpec := { name := "fnSame", fn := fun _ => fun
  | [d] => { results := [.lit (.bool true)], args := [d] }
  | _ => none }
def fnSameRow : OpenClaim := { program := "ytlcckcifnpjbpaa", sum := "6a12e1a717f8a3a3a3f9c3608039f3e1f9cb8dd9241868b75ca52c327efd6e7e", func := "loop.example/sagaflows/laws.FnSame", spec := "fnSame", unfollowed := true, recurses := true, apart := false }
def FnSameSaid : Prop := fnSameRow.holds Try.pinned (OpenSpec.ofChange fnSameSpec)

/-- ITS FALSE NEIGHBOUR: 'it returns false'. Refute it at one input. -/
def fnSameWrong : ChangeSpec := { name := "fnSame", fn := fun _ => fun
  | [d] => { results := [.lit (.bool false)], args := [d] }
  | _ => none }
def FnSameWrongFalsely : Prop := fnSameRow.holds Try.pinned (OpenSpec.ofChange fnSameWrong)

/-- 'laws.FnFitBadNone': WHATEVER THE INPUT: true; the input reads as it did. -/
def fnFitBadNoneSpec : ChangeSpec := { name := "fnFitBadNone", fn := fun _ => fun
  | [d1, d2] => { results := [.lit (.bool true)], args := [d1, d2] }
  | _ => none }
def fnFitBadNoneRow : OpenClaim := { program := "ytlcckcifnpjbpaa", sum := "6a12e1a717f8a3a3a3f9c3608039f3e1f9cb8dd9241868b75ca52c327efd6e7e", func := "loop.example/sagaflows/laws.FnFitBadNone", spec := "fnFitBadNone", unfollowed := true, recurses := true, apart := false }
def FnFitBadNoneSaid : Prop := fnFitBadNoneRow.holds Try.pinned (OpenSpec.ofChange fnFitBadNoneSpec)

/-- ITS FALSE NEIGHBOUR: 'it returns false'. Refute it at one input. -/
def fnFitBadNoneWrong : ChangeSpec := { name := "fnFitBadNone", fn := fun _ => fun
  | [d1, d2] => { results := [.lit (.bool false)], args := [d1, d2] }
  | _ => none }
def FnFitBadNoneWrongFalsely : Prop := fnFitBadNoneRow.holds Try.pinned (OpenSpec.ofChange fnFitBadNoneWrong)

/-- 'laws.FnFitBad': WHATEVER THE INPUT: true; the input reads as it did. -/
def fnFitBadSpec : ChangeSpec := { name := "fnFitBad", fn := fun _ => fun
  | [d] => { results := [.lit (.bool true)], args := [d] }
  | _ => none }
def fnFitBadRow : OpenClaim := { program := "ytlcckcifnpjbpaa", sum := "6a12e1a717f8a3a3a3f9c3608039f3e1f9cb8dd9241868b75ca52c327efd6e7e", func := "loop.example/sagaflows/laws.FnFitBad", spec := "fnFitBad", unfollowed := true, recurses := true, apart := false }
def FnFitBadSaid : Prop := fnFitBadRow.holds Try.pinned (OpenSpec.ofChange fnFitBadSpec)

/-- ITS FALSE NEIGHBOUR: 'it returns false'. Refute it at one input. -/
def fnFitBadWrong : ChangeSpec := { name := "fnFitBad", fn := fun _ => fun
  | [d] => { results := [.lit (.bool false)], args := [d] }
  | _ => none }
def FnFitBadWrongFalsely : Prop := fnFitBadRow.holds Try.pinned (OpenSpec.ofChange fnFitBadWrong)

/- THE SECOND FORM. 'bulk': how many values and letters a reading holds, each counted each time it is reached (what is shared counts as often as it is met; a slice's spare places count too). A statement '..UptoSaid' is the law's where the arguments, and the package variables that the reading takes, are together of bulk at most 1048576: NARROWER than '..Said'. Prove '..Said' where nothing that the law and all that it calls make is longer than what came in: it says more and counts as full. Else prove '..UptoSaid'. A law counts once. -/
mutual
def uptoBulk {H : Type} : DataW H → Nat
  | .lit (.string bytes) => bytes.length + 1
  | .lit _ => 1
  | .nil => 1
  | .ptr d => uptoBulk d + 1
  | .slice elems spare => uptoBulkAll elems + uptoBulkAll spare + 1
  | .agg parts => uptoBulkAll parts + 1
  | .iface _ d => uptoBulk d + 1
  | .map entries => uptoBulkEntries entries + 1
  | .held _ => 1
def uptoBulkAll {H : Type} : List (DataW H) → Nat
  | [] => 0
  | d :: r => uptoBulk d + uptoBulkAll r
def uptoBulkEntries {H : Type} : List (Lit × DataW H) → Nat
  | [] => 0
  | x :: r => uptoBulkEntry x + uptoBulkEntries r
def uptoBulkEntry {H : Type} : Lit × DataW H → Nat
  | (.string bytes, d) => bytes.length + uptoBulk d + 1
  | (_, d) => uptoBulk d + 1
 end
def uptoSmall : (H : Type) → List (DataW H) → Bool := fun _ ds => decide (uptoBulkAll ds ≤ 1048576)
def OpenSpec.upto (s : _root_.Go.ChangeSpec) : _root_.Go.OpenSpec := { _root_.Go.OpenSpec.ofChange s with cond := some uptoSmall }

/-- 'laws.FnPut', WHERE WHAT IT READS IS OF BULK AT MOST 1048576: true; the input reads as it did. -/
def fnPutUptoRow : OpenClaim := { program := "ytlcckcifnpjbpaa", sum := "6a12e1a717f8a3a3a3f9c3608039f3e1f9cb8dd9241868b75ca52c327efd6e7e", func := "loop.example/sagaflows/laws.FnPut", spec := "fnPut", unfollowed := true, recurses := true, apart := false, narrowed := true }
def FnPutUptoSaid : Prop := fnPutUptoRow.holds Try.pinned (OpenSpec.upto fnPutSpec)

/-- 'laws.FnRegDropUsed', WHERE WHAT IT READS IS OF BULK AT MOST 1048576: true; the input reads as it did. -/
def fnRegDropUsedUptoRow : OpenClaim := { program := "ytlcckcifnpjbpaa", sum := "6a12e1a717f8a3a3a3f9c3608039f3e1f9cb8dd9241868b75ca52c327efd6e7e", func := "loop.example/sagaflows/laws.FnRegDropUsed", spec := "fnRegDropUsed", unfollowed := true, recurses := true, apart := false, narrowed := true }
def FnRegDropUsedUptoSaid : Prop := fnRegDropUsedUptoRow.holds Try.pinned (OpenSpec.upto fnRegDropUsedSpec)

/-- 'laws.FnRegDrop', WHERE WHAT IT READS IS OF BULK AT MOST 1048576: true; the input reads as it did. -/
def fnRegDropUptoRow : OpenClaim := { program := "ytlcckcifnpjbpaa", sum := "6a12e1a717f8a3a3a3f9c3608039f3e1f9cb8dd9241868b75ca52c327efd6e7e", func := "loop.example/sagaflows/laws.FnRegDrop", spec := "fnRegDrop", unfollowed := true, recurses := true, apart := false, narrowed := true }
def FnRegDropUptoSaid : Prop := fnRegDropUptoRow.holds Try.pinned (OpenSpec.upto fnRegDropSpec)

/-- 'laws.FnPutFind', WHERE WHAT IT READS IS OF BULK AT MOST 1048576: true; the input reads as it did. -/
def fnPutFindUptoRow : OpenClaim := { program := "ytlcckcifnpjbpaa", sum := "6a12e1a717f8a3a3a3f9c3608039f3e1f9cb8dd9241868b75ca52c327efd6e7e", func := "loop.example/sagaflows/laws.FnPutFind", spec := "fnPutFind", unfollowed := true, recurses := true, apart := false, narrowed := true }
def FnPutFindUptoSaid : Prop := fnPutFindUptoRow.holds Try.pinned (OpenSpec.upto fnPutFindSpec)

/-- 'laws.FnSameVersion', WHERE WHAT IT READS IS OF BULK AT MOST 1048576: true; the input reads as it did. -/
def fnSameVersionUptoRow : OpenClaim := { program := "ytlcckcifnpjbpaa", sum := "6a12e1a717f8a3a3a3f9c3608039f3e1f9cb8dd9241868b75ca52c327efd6e7e", func := "loop.example/sagaflows/laws.FnSameVersion", spec := "fnSameVersion", unfollowed := true, recurses := true, apart := false, narrowed := true }
def FnSameVersionUptoSaid : Prop := fnSameVersionUptoRow.holds Try.pinned (OpenSpec.upto fnSameVersionSpec)

/-- 'laws.FnExactRegistryFind', WHERE WHAT IT READS IS OF BULK AT MOST 1048576: true; the input reads as it did. -/
def fnExactRegistryFindUptoRow : OpenClaim := { program := "ytlcckcifnpjbpaa", sum := "6a12e1a717f8a3a3a3f9c3608039f3e1f9cb8dd9241868b75ca52c327efd6e7e", func := "loop.example/sagaflows/laws.FnExactRegistryFind", spec := "fnExactRegistryFind", unfollowed := true, recurses := true, apart := false, narrowed := true }
def FnExactRegistryFindUptoSaid : Prop := fnExactRegistryFindUptoRow.holds Try.pinned (OpenSpec.upto fnExactRegistryFindSpec)

/-- 'laws.FnExactRegistryPut', WHERE WHAT IT READS IS OF BULK AT MOST 1048576: true; the input reads as it did. -/
def fnExactRegistryPutUptoRow : OpenClaim := { program := "ytlcckcifnpjbpaa", sum := "6a12e1a717f8a3a3a3f9c3608039f3e1f9cb8dd9241868b75ca52c327efd6e7e", func := "loop.example/sagaflows/laws.FnExactRegistryPut", spec := "fnExactRegistryPut", apart := false, narrowed := true }
def FnExactRegistryPutUptoSaid : Prop := fnExactRegistryPutUptoRow.holds Try.pinned (OpenSpec.upto fnExactRegistryPutSpec)

/-- 'laws.FnExactFitRun', WHERE WHAT IT READS IS OF BULK AT MOST 1048576: true; the input reads as it did. -/
def fnExactFitRunUptoRow : OpenClaim := { program := "ytlcckcifnpjbpaa", sum := "6a12e1a717f8a3a3a3f9c3608039f3e1f9cb8dd9241868b75ca52c327efd6e7e", func := "loop.example/sagaflows/laws.FnExactFitRun", spec := "fnExactFitRun", unfollowed := true, recurses := true, apart := false, narrowed := true }
def FnExactFitRunUptoSaid : Prop := fnExactFitRunUptoRow.holds Try.pinned (OpenSpec.upto fnExactFitRunSpec)

/-- 'laws.FnExactMoveBoth', WHERE WHAT IT READS IS OF BULK AT MOST 1048576: true; the input reads as it did. -/
def fnExactMoveBothUptoRow : OpenClaim := { program := "ytlcckcifnpjbpaa", sum := "6a12e1a717f8a3a3a3f9c3608039f3e1f9cb8dd9241868b75ca52c327efd6e7e", func := "loop.example/sagaflows/laws.FnExactMoveBoth", spec := "fnExactMoveBoth", unfollowed := true, recurses := true, apart := false, narrowed := true }
def FnExactMoveBothUptoSaid : Prop := fnExactMoveBothUptoRow.holds Try.pinned (OpenSpec.upto fnExactMoveBothSpec)

/-- 'laws.FnSame', WHERE WHAT IT READS IS OF BULK AT MOST 1048576: true; the input reads as it did. -/
def fnSameUptoRow : OpenClaim := { program := "ytlcckcifnpjbpaa", sum := "6a12e1a717f8a3a3a3f9c3608039f3e1f9cb8dd9241868b75ca52c327efd6e7e", func := "loop.example/sagaflows/laws.FnSame", spec := "fnSame", unfollowed := true, recurses := true, apart := false, narrowed := true }
def FnSameUptoSaid : Prop := fnSameUptoRow.holds Try.pinned (OpenSpec.upto fnSameSpec)

/-- 'laws.FnFitBadNone', WHERE WHAT IT READS IS OF BULK AT MOST 1048576: true; the input reads as it did. -/
def fnFitBadNoneUptoRow : OpenClaim := { program := "ytlcckcifnpjbpaa", sum := "6a12e1a717f8a3a3a3f9c3608039f3e1f9cb8dd9241868b75ca52c327efd6e7e", func := "loop.example/sagaflows/laws.FnFitBadNone", spec := "fnFitBadNone", unfollowed := true, recurses := true, apart := false, narrowed := true }
def FnFitBadNoneUptoSaid : Prop := fnFitBadNoneUptoRow.holds Try.pinned (OpenSpec.upto fnFitBadNoneSpec)

/-- 'laws.FnFitBad', WHERE WHAT IT READS IS OF BULK AT MOST 1048576: true; the input reads as it did. -/
def fnFitBadUptoRow : OpenClaim := { program := "ytlcckcifnpjbpaa", sum := "6a12e1a717f8a3a3a3f9c3608039f3e1f9cb8dd9241868b75ca52c327efd6e7e", func := "loop.example/sagaflows/laws.FnFitBad", spec := "fnFitBad", unfollowed := true, recurses := true, apart := false, narrowed := true }
def FnFitBadUptoSaid : Prop := fnFitBadUptoRow.holds Try.pinned (OpenSpec.upto fnFitBadSpec)

end Rows
end Go.Proofs.Ytlcckcifnpjbpaa
