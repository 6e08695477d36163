/-
  No cell of these rows narrows 'for every input' (looked for: loops, veiled, ifaces, maps, wideKeys, modest, calm, conditions, laid).
  DERIVED. THE GIVEN ROWS OF THIS SEAT. 12 by the template 'for every input the law returns true; each argument reads behind the call as it read before'; 0 by the template 'total and deterministic' (their statements: YthlhkinkcbamgaaTotals.lean).
  GIVEN WITH THE SEED: the statements are not yours to turn. If you find one false, say at which input.
  Laid BY PROGRAM, IN A SANDBOX (cutbox-rows.mjs): the forced cells as the released guide's own fill.sh prints them over the translation 480c3e4cad2282bd… (all of the seat's roots in one cut). By AI agents, Wed Nov 11 2026. No macro, syntax, notation, axiom, sorry.
-/
import Derived.Test.YthlhkinkcbamgaaChecked
import GoSem.Claim
import GoSem.ClaimJoined
import GoSem.ClaimMapViews
import Derived.JoinedTies
import Derived.KernelRfl
namespace Go.Proofs.Ythlhkinkcbamgaa
/- THE CELL 'sum', in the pinned program and in every row, IS THE sha256 OF THE DUMP (.gsa) THAT YthlhkinkcbamgaaProg.lean LOADS. Nothing in Lean hashes anything: it is a label: what it is worth is what the hold of that sum in a sandbox is worth. -/
noncomputable def Try.pinned : Pinned := { name := "ythlhkinkcbamgaa", sum := "480c3e4cad2282bdbc7d2b4147efd330a1825341ef1abc598b3c68fa2ca9668e", checked := Try.checked }
namespace Rows
def none {H : Type} : Left H := { results := [], args := [] }

/-- 'laws.FnFitBack': WHATEVER THE INPUT: true; the input reads as it did. -/
def fnFitBackSpec : ChangeSpec := { name := "fnFitBack", fn := fun _ => fun
  | [d] => { results := [.lit (.bool true)], args := [d] }
  | _ => none }
def fnFitBackRow : OpenClaim := { program := "ythlhkinkcbamgaa", sum := "480c3e4cad2282bdbc7d2b4147efd330a1825341ef1abc598b3c68fa2ca9668e", func := "loop.example/sagaflows/laws.FnFitBack", spec := "fnFitBack", unfollowed := true, recurses := true, apart := false }
def FnFitBackSaid : Prop := fnFitBackRow.holds Try.pinned (OpenSpec.ofChange fnFitBackSpec)

/-- ITS FALSE NEIGHBOUR: 'it returns false'. Refute it at one input. -/
def fnFitBackWrong : ChangeSpec := { name := "fnFitBack", fn := fun _ => fun
  | [d] => { results := [.lit (.bool false)], args := [d] }
  | _ => none }
def FnFitBackWrongFalsely : Prop := fnFitBackRow.holds Try.pinned (OpenSpec.ofChange fnFitBackWrong)

/-- 'laws.FnFitEnded': WHATEVER THE INPUT: true; the input reads as it did. -/
def fnFitEndedSpec : ChangeSpec := { name := "fnFitEnded", fn := fun _ => fun
  | [d] => { results := [.lit (.bool true)], args := [d] }
  | _ => none }
def fnFitEndedRow : OpenClaim := { program := "ythlhkinkcbamgaa", sum := "480c3e4cad2282bdbc7d2b4147efd330a1825341ef1abc598b3c68fa2ca9668e", func := "loop.example/sagaflows/laws.FnFitEnded", spec := "fnFitEnded", unfollowed := true, recurses := true, apart := false }
def FnFitEndedSaid : Prop := fnFitEndedRow.holds Try.pinned (OpenSpec.ofChange fnFitEndedSpec)

/-- ITS FALSE NEIGHBOUR: 'it returns false'. Refute it at one input. -/
def fnFitEndedWrong : ChangeSpec := { name := "fnFitEnded", fn := fun _ => fun
  | [d] => { results := [.lit (.bool false)], args := [d] }
  | _ => none }
def FnFitEndedWrongFalsely : Prop := fnFitEndedRow.holds Try.pinned (OpenSpec.ofChange fnFitEndedWrong)

/-- 'laws.FnFitSelf': WHATEVER THE INPUT: true; the input reads as it did. -/
def fnFitSelfSpec : ChangeSpec := { name := "fnFitSelf", fn := fun _ => fun
  | [d] => { results := [.lit (.bool true)], args := [d] }
  | _ => none }
def fnFitSelfRow : OpenClaim := { program := "ythlhkinkcbamgaa", sum := "480c3e4cad2282bdbc7d2b4147efd330a1825341ef1abc598b3c68fa2ca9668e", func := "loop.example/sagaflows/laws.FnFitSelf", spec := "fnFitSelf", unfollowed := true, recurses := true, apart := false }
def FnFitSelfSaid : Prop := fnFitSelfRow.holds Try.pinned (OpenSpec.ofChange fnFitSelfSpec)

/-- ITS FALSE NEIGHBOUR: 'it returns false'. Refute it at one input. -/
def fnFitSelfWrong : ChangeSpec := { name := "fnFitSelf", fn := fun _ => fun
  | [d] => { results := [.lit (.bool false)], args := [d] }
  | _ => none }
def FnFitSelfWrongFalsely : Prop := fnFitSelfRow.holds Try.pinned (OpenSpec.ofChange fnFitSelfWrong)

/-- 'laws.FnFitState': WHATEVER THE INPUT: true; the input reads as it did. -/
def fnFitStateSpec : ChangeSpec := { name := "fnFitState", fn := fun _ => fun
  | [d] => { results := [.lit (.bool true)], args := [d] }
  | _ => none }
def fnFitStateRow : OpenClaim := { program := "ythlhkinkcbamgaa", sum := "480c3e4cad2282bdbc7d2b4147efd330a1825341ef1abc598b3c68fa2ca9668e", func := "loop.example/sagaflows/laws.FnFitState", spec := "fnFitState", unfollowed := true, recurses := true, apart := false }
def FnFitStateSaid : Prop := fnFitStateRow.holds Try.pinned (OpenSpec.ofChange fnFitStateSpec)

/-- ITS FALSE NEIGHBOUR: 'it returns false'. Refute it at one input. -/
def fnFitStateWrong : ChangeSpec := { name := "fnFitState", fn := fun _ => fun
  | [d] => { results := [.lit (.bool false)], args := [d] }
  | _ => none }
def FnFitStateWrongFalsely : Prop := fnFitStateRow.holds Try.pinned (OpenSpec.ofChange fnFitStateWrong)

/-- 'laws.FnFitRun': WHATEVER THE INPUT: true; the input reads as it did. -/
def fnFitRunSpec : ChangeSpec := { name := "fnFitRun", fn := fun _ => fun
  | [d] => { results := [.lit (.bool true)], args := [d] }
  | _ => none }
def fnFitRunRow : OpenClaim := { program := "ythlhkinkcbamgaa", sum := "480c3e4cad2282bdbc7d2b4147efd330a1825341ef1abc598b3c68fa2ca9668e", func := "loop.example/sagaflows/laws.FnFitRun", spec := "fnFitRun", unfollowed := true, recurses := true, apart := false }
def FnFitRunSaid : Prop := fnFitRunRow.holds Try.pinned (OpenSpec.ofChange fnFitRunSpec)

/-- ITS FALSE NEIGHBOUR: 'it returns false'. Refute it at one input. -/
def fnFitRunWrong : ChangeSpec := { name := "fnFitRun", fn := fun _ => fun
  | [d] => { results := [.lit (.bool false)], args := [d] }
  | _ => none }
def FnFitRunWrongFalsely : Prop := fnFitRunRow.holds Try.pinned (OpenSpec.ofChange fnFitRunWrong)

/-- 'laws.FnMoveBoth': WHATEVER THE INPUT: true; the input reads as it did. -/
def fnMoveBothSpec : ChangeSpec := { name := "fnMoveBoth", fn := fun _ => fun
  | [d] => { results := [.lit (.bool true)], args := [d] }
  | _ => none }
def fnMoveBothRow : OpenClaim := { program := "ythlhkinkcbamgaa", sum := "480c3e4cad2282bdbc7d2b4147efd330a1825341ef1abc598b3c68fa2ca9668e", func := "loop.example/sagaflows/laws.FnMoveBoth", spec := "fnMoveBoth", unfollowed := true, recurses := true, apart := false }
def FnMoveBothSaid : Prop := fnMoveBothRow.holds Try.pinned (OpenSpec.ofChange fnMoveBothSpec)

/-- ITS FALSE NEIGHBOUR: 'it returns false'. Refute it at one input. -/
def fnMoveBothWrong : ChangeSpec := { name := "fnMoveBoth", fn := fun _ => fun
  | [d] => { results := [.lit (.bool false)], args := [d] }
  | _ => none }
def FnMoveBothWrongFalsely : Prop := fnMoveBothRow.holds Try.pinned (OpenSpec.ofChange fnMoveBothWrong)

/-- 'laws.FnMoveBothSelf': WHATEVER THE INPUT: true; the input reads as it did. -/
def fnMoveBothSelfSpec : ChangeSpec := { name := "fnMoveBothSelf", fn := fun _ => fun
  | [d] => { results := [.lit (.bool true)], args := [d] }
  | _ => none }
def fnMoveBothSelfRow : OpenClaim := { program := "ythlhkinkcbamgaa", sum := "480c3e4cad2282bdbc7d2b4147efd330a1825341ef1abc598b3c68fa2ca9668e", func := "loop.example/sagaflows/laws.FnMoveBothSelf", spec := "fnMoveBothSelf", unfollowed := true, recurses := true, apart := false }
def FnMoveBothSelfSaid : Prop := fnMoveBothSelfRow.holds Try.pinned (OpenSpec.ofChange fnMoveBothSelfSpec)

/-- ITS FALSE NEIGHBOUR: 'it returns false'. Refute it at one input. -/
def fnMoveBothSelfWrong : ChangeSpec := { name := "fnMoveBothSelf", fn := fun _ => fun
  | [d] => { results := [.lit (.bool false)], args := [d] }
  | _ => none }
def FnMoveBothSelfWrongFalsely : Prop := fnMoveBothSelfRow.holds Try.pinned (OpenSpec.ofChange fnMoveBothSelfWrong)

/-- 'laws.FnMoveAll': WHATEVER THE INPUT: true; the input reads as it did. -/
def fnMoveAllSpec : ChangeSpec := { name := "fnMoveAll", fn := fun _ => fun
  | [d] => { results := [.lit (.bool true)], args := [d] }
  | _ => none }
def fnMoveAllRow : OpenClaim := { program := "ythlhkinkcbamgaa", sum := "480c3e4cad2282bdbc7d2b4147efd330a1825341ef1abc598b3c68fa2ca9668e", func := "loop.example/sagaflows/laws.FnMoveAll", spec := "fnMoveAll", unfollowed := true, recurses := true, apart := false }
def FnMoveAllSaid : Prop := fnMoveAllRow.holds Try.pinned (OpenSpec.ofChange fnMoveAllSpec)

/-- ITS FALSE NEIGHBOUR: 'it returns false'. Refute it at one input. -/
def fnMoveAllWrong : ChangeSpec := { name := "fnMoveAll", fn := fun _ => fun
  | [d] => { results := [.lit (.bool false)], args := [d] }
  | _ => none }
def FnMoveAllWrongFalsely : Prop := fnMoveAllRow.holds Try.pinned (OpenSpec.ofChange fnMoveAllWrong)

/-- 'laws.FnMoveAllSelf': WHATEVER THE INPUT: true; the input reads as it did. -/
def fnMoveAllSelfSpec : ChangeSpec := { name := "fnMoveAllSelf", fn := fun _ => fun
  | [d] => { results := [.lit (.bool true)], args := [d] }
  | _ => none }
def fnMoveAllSelfRow : OpenClaim := { program := "ythlhkinkcbamgaa", sum := "480c3e4cad2282bdbc7d2b4147efd330a1825341ef1abc598b3c68fa2ca9668e", func := "loop.example/sagaflows/laws.FnMoveAllSelf", spec := "fnMoveAllSelf", unfollowed := true, recurses := true, apart := false }
def FnMoveAllSelfSaid : Prop := fnMoveAllSelfRow.holds Try.pinned (OpenSpec.ofChange fnMoveAllSelfSpec)

/-- ITS FALSE NEIGHBOUR: 'it returns false'. Refute it at one input. -/
def fnMoveAllSelfWrong : ChangeSpec := { name := "fnMoveAllSelf", fn := fun _ => fun
  | [d] => { results := [.lit (.bool false)], args := [d] }
  | _ => none }
def FnMoveAllSelfWrongFalsely : Prop := fnMoveAllSelfRow.holds Try.pinned (OpenSpec.ofChange fnMoveAllSelfWrong)

/-- 'laws.FnExactMoveAll': WHATEVER THE INPUT: true; the input reads as it did. -/
def fnExactMoveAllSpec : ChangeSpec := { name := "fnExactMoveAll", fn := fun _ => fun
  | [d1, d2, d3] => { results := [.lit (.bool true)], args := [d1, d2, d3] }
  | _ => none }
def fnExactMoveAllRow : OpenClaim := { program := "ythlhkinkcbamgaa", sum := "480c3e4cad2282bdbc7d2b4147efd330a1825341ef1abc598b3c68fa2ca9668e", func := "loop.example/sagaflows/laws.FnExactMoveAll", spec := "fnExactMoveAll", unfollowed := true, recurses := true, apart := false }
def FnExactMoveAllSaid : Prop := fnExactMoveAllRow.holds Try.pinned (OpenSpec.ofChange fnExactMoveAllSpec)

/-- ITS FALSE NEIGHBOUR: 'it returns false'. Refute it at one input. -/
def fnExactMoveAllWrong : ChangeSpec := { name := "fnExactMoveAll", fn := fun _ => fun
  | [d1, d2, d3] => { results := [.lit (.bool false)], args := [d1, d2, d3] }
  | _ => none }
def FnExactMoveAllWrongFalsely : Prop := fnExactMoveAllRow.holds Try.pinned (OpenSpec.ofChange fnExactMoveAllWrong)

/-- 'laws.FnExactFitNew': WHATEVER THE INPUT: true; the input reads as it did. -/
def fnExactFitNewSpec : ChangeSpec := { name := "fnExactFitNew", fn := fun _ => fun
  | [d1, d2] => { results := [.lit (.bool true)], args := [d1, d2] }
  | _ => none }
def fnExactFitNewRow : OpenClaim := { program := "ythlhkinkcbamgaa", sum := "480c3e4cad2282bdbc7d2b4147efd330a1825341ef1abc598b3c68fa2ca9668e", func := "loop.example/sagaflows/laws.FnExactFitNew", spec := "fnExactFitNew", unfollowed := true, recurses := true, apart := false }
def FnExactFitNewSaid : Prop := fnExactFitNewRow.holds Try.pinned (OpenSpec.ofChange fnExactFitNewSpec)

/-- ITS FALSE NEIGHBOUR: 'it returns false'. Refute it at one input. -/
def fnExactFitNewWrong : ChangeSpec := { name := "fnExactFitNew", fn := fun _ => fun
  | [d1, d2] => { results := [.lit (.bool false)], args := [d1, d2] }
  | _ => none }
def FnExactFitNewWrongFalsely : Prop := fnExactFitNewRow.holds Try.pinned (OpenSpec.ofChange fnExactFitNewWrong)

/-- 'laws.FnExactRegistryDrop': WHATEVER THE INPUT: true; the input reads as it did. -/
def fnExactRegistryDropSpec : ChangeSpec := { name := "fnExactRegistryDrop", fn := fun _ => fun
  | [d1, d2, d3] => { results := [.lit (.bool true)], args := [d1, d2, d3] }
  | _ => none }
def fnExactRegistryDropRow : OpenClaim := { program := "ythlhkinkcbamgaa", sum := "480c3e4cad2282bdbc7d2b4147efd330a1825341ef1abc598b3c68fa2ca9668e", func := "loop.example/sagaflows/laws.FnExactRegistryDrop", spec := "fnExactRegistryDrop", unfollowed := true, recurses := true, apart := false }
def FnExactRegistryDropSaid : Prop := fnExactRegistryDropRow.holds Try.pinned (OpenSpec.ofChange fnExactRegistryDropSpec)

/-- ITS FALSE NEIGHBOUR: 'it returns false'. Refute it at one input. -/
def fnExactRegistryDropWrong : ChangeSpec := { name := "fnExactRegistryDrop", fn := fun _ => fun
  | [d1, d2, d3] => { results := [.lit (.bool false)], args := [d1, d2, d3] }
  | _ => none }
def FnExactRegistryDropWrongFalsely : Prop := fnExactRegistryDropRow.holds Try.pinned (OpenSpec.ofChange fnExactRegistryDropWrong)

/- THE SECOND FORM. 'bulk': how many values and letters a reading holds, each counted each time it is reached (what is shared counts as often as it is met; a slice's spare places count too). A statement '..UptoSaid' is the law's where the arguments, and the package variables that the reading takes, are together of bulk at most 1048576: NARROWER than '..Said'. Prove '..Said' where nothing that the law and all that it calls make is longer than what came in: it says more and counts as full. Else prove '..UptoSaid'. A law counts once. -/
mutual
def uptoBulk {H : Type} : DataW H → Nat
  | .lit (.string bytes) => bytes.length + 1
  | .lit _ => 1
  | .nil => 1
  | .ptr d => uptoBulk d + 1
  | .slice elems spare => uptoBulkAll elems + uptoBulkAll spare + 1
  | .agg parts => uptoBulkAll parts + 1
  | .iface _ d => uptoBulk d + 1
  | .map entries => uptoBulkEntries entries + 1
  | .held _ => 1
def uptoBulkAll {H : Type} : List (DataW H) → Nat
  | [] => 0
  | d :: r => uptoBulk d + uptoBulkAll r
def uptoBulkEntries {H : Type} : List (Lit × DataW H) → Nat
  | [] => 0
  | x :: r => uptoBulkEntry x + uptoBulkEntries r
def uptoBulkEntry {H : Type} : Lit × DataW H → Nat
  | (.string bytes, d) => bytes.length + uptoBulk d + 1
  | (_, d) => uptoBulk d + 1
 end
def uptoSmall : (H : Type) → List (DataW H) → Bool := fun _ ds => decide (uptoBulkAll ds ≤ 1048576)
def OpenSpec.upto (s : _root_.Go.ChangeSpec) : _root_.Go.OpenSpec := { _root_.Go.OpenSpec.ofChange s with cond := some uptoSmall }

/-- 'laws.FnFitBack', WHERE WHAT IT READS IS OF BULK AT MOST 1048576: true; the input reads as it did. -/
def fnFitBackUptoRow : OpenClaim := { program := "ythlhkinkcbamgaa", sum := "480c3e4cad2282bdbc7d2b4147efd330a1825341ef1abc598b3c68fa2ca9668e", func := "loop.example/sagaflows/laws.FnFitBack", spec := "fnFitBack", unfollowed := true, recurses := true, apart := false, narrowed := true }
def FnFitBackUptoSaid : Prop := fnFitBackUptoRow.holds Try.pinned (OpenSpec.upto fnFitBackSpec)

/-- 'laws.FnFitEnded', WHERE WHAT IT READS IS OF BULK AT MOST 1048576: true; the input reads as it did. -/
def fnFitEndedUptoRow : OpenClaim := { program := "ythlhkinkcbamgaa", sum := "480c3e4cad2282bdbc7d2b4147efd330a1825341ef1abc598b3c68fa2ca9668e", func := "loop.example/sagaflows/laws.FnFitEnded", spec := "fnFitEnded", unfollowed := true, recurses := true, apart := false, narrowed := true }
def FnFitEndedUptoSaid : Prop := fnFitEndedUptoRow.holds Try.pinned (OpenSpec.upto fnFitEndedSpec)

/-- 'laws.FnFitSelf', WHERE WHAT IT READS IS OF BULK AT MOST 1048576: true; the input reads as it did. -/
def fnFitSelfUptoRow : OpenClaim := { program := "ythlhkinkcbamgaa", sum := "480c3e4cad2282bdbc7d2b4147efd330a1825341ef1abc598b3c68fa2ca9668e", func := "loop.example/sagaflows/laws.FnFitSelf", spec := "fnFitSelf", unfollowed := true, recurses := true, apart := false, narrowed := true }
def FnFitSelfUptoSaid : Prop := fnFitSelfUptoRow.holds Try.pinned (OpenSpec.upto fnFitSelfSpec)

/-- 'laws.FnFitState', WHERE WHAT IT READS IS OF BULK AT MOST 1048576: true; the input reads as it did. -/
def fnFitStateUptoRow : OpenClaim := { program := "ythlhkinkcbamgaa", sum := "480c3e4cad2282bdbc7d2b4147efd330a1825341ef1abc598b3c68fa2ca9668e", func := "loop.example/sagaflows/laws.FnFitState", spec := "fnFitState", unfollowed := true, recurses := true, apart := false, narrowed := true }
def FnFitStateUptoSaid : Prop := fnFitStateUptoRow.holds Try.pinned (OpenSpec.upto fnFitStateSpec)

/-- 'laws.FnFitRun', WHERE WHAT IT READS IS OF BULK AT MOST 1048576: true; the input reads as it did. -/
def fnFitRunUptoRow : OpenClaim := { program := "ythlhkinkcbamgaa", sum := "480c3e4cad2282bdbc7d2b4147efd330a1825341ef1abc598b3c68fa2ca9668e", func := "loop.example/sagaflows/laws.FnFitRun", spec := "fnFitRun", unfollowed := true, recurses := true, apart := false, narrowed := true }
def FnFitRunUptoSaid : Prop := fnFitRunUptoRow.holds Try.pinned (OpenSpec.upto fnFitRunSpec)

/-- 'laws.FnMoveBoth', WHERE WHAT IT READS IS OF BULK AT MOST 1048576: true; the input reads as it did. -/
def fnMoveBothUptoRow : OpenClaim := { program := "ythlhkinkcbamgaa", sum := "480c3e4cad2282bdbc7d2b4147efd330a1825341ef1abc598b3c68fa2ca9668e", func := "loop.example/sagaflows/laws.FnMoveBoth", spec := "fnMoveBoth", unfollowed := true, recurses := true, apart := false, narrowed := true }
def FnMoveBothUptoSaid : Prop := fnMoveBothUptoRow.holds Try.pinned (OpenSpec.upto fnMoveBothSpec)

/-- 'laws.FnMoveBothSelf', WHERE WHAT IT READS IS OF BULK AT MOST 1048576: true; the input reads as it did. -/
def fnMoveBothSelfUptoRow : OpenClaim := { program := "ythlhkinkcbamgaa", sum := "480c3e4cad2282bdbc7d2b4147efd330a1825341ef1abc598b3c68fa2ca9668e", func := "loop.example/sagaflows/laws.FnMoveBothSelf", spec := "fnMoveBothSelf", unfollowed := true, recurses := true, apart := false, narrowed := true }
def FnMoveBothSelfUptoSaid : Prop := fnMoveBothSelfUptoRow.holds Try.pinned (OpenSpec.upto fnMoveBothSelfSpec)

/-- 'laws.FnMoveAll', WHERE WHAT IT READS IS OF BULK AT MOST 1048576: true; the input reads as it did. -/
def fnMoveAllUptoRow : OpenClaim := { program := "ythlhkinkcbamgaa", sum := "480c3e4cad2282bdbc7d2b4147efd330a1825341ef1abc598b3c68fa2ca9668e", func := "loop.example/sagaflows/laws.FnMoveAll", spec := "fnMoveAll", unfollowed := true, recurses := true, apart := false, narrowed := true }
def FnMoveAllUptoSaid : Prop := fnMoveAllUptoRow.holds Try.pinned (OpenSpec.upto fnMoveAllSpec)

/-- 'laws.FnMoveAllSelf', WHERE WHAT IT READS IS OF BULK AT MOST 1048576: true; the input reads as it did. -/
def fnMoveAllSelfUptoRow : OpenClaim := { program := "ythlhkinkcbamgaa", sum := "480c3e4cad2282bdbc7d2b4147efd330a1825341ef1abc598b3c68fa2ca9668e", func := "loop.example/sagaflows/laws.FnMoveAllSelf", spec := "fnMoveAllSelf", unfollowed := true, recurses := true, apart := false, narrowed := true }
def FnMoveAllSelfUptoSaid : Prop := fnMoveAllSelfUptoRow.holds Try.pinned (OpenSpec.upto fnMoveAllSelfSpec)

/-- 'laws.FnExactMoveAll', WHERE WHAT IT READS IS OF BULK AT MOST 1048576: true; the input reads as it did. -/
def fnExactMoveAllUptoRow : OpenClaim := { program := "ythlhkinkcbamgaa", sum := "480c3e4cad2282bdbc7d2b4147efd330a1825341ef1abc598b3c68fa2ca9668e", func := "loop.example/sagaflows/laws.FnExactMoveAll", spec := "fnExactMoveAll", unfollowed := true, recurses := true, apart := false, narrowed := true }
def FnExactMoveAllUptoSaid : Prop := fnExactMoveAllUptoRow.holds Try.pinned (OpenSpec.upto fnExactMoveAllSpec)

/-- 'laws.FnExactFitNew', WHERE WHAT IT READS IS OF BULK AT MOST 1048576: true; the input reads as it did. -/
def fnExactFitNewUptoRow : OpenClaim := { program := "ythlhkinkcbamgaa", sum := "480c3e4cad2282bdbc7d2b4147efd330a1825341ef1abc598b3c68fa2ca9668e", func := "loop.example/sagaflows/laws.FnExactFitNew", spec := "fnExactFitNew", unfollowed := true, recurses := true, apart := false, narrowed := true }
def FnExactFitNewUptoSaid : Prop := fnExactFitNewUptoRow.holds Try.pinned (OpenSpec.upto fnExactFitNewSpec)

/-- 'laws.FnExactRegistryDrop', WHERE WHAT IT READS IS OF BULK AT MOST 1048576: true; the input reads as it did. -/
def fnExactRegistryDropUptoRow : OpenClaim := { program := "ythlhkinkcbamgaa", sum := "480c3e4cad2282bdbc7d2b4147efd330a1825341ef1abc598b3c68fa2ca9668e", func := "loop.example/sagaflows/laws.FnExactRegistryDrop", spec := "fnExactRegistryDrop", unfollowed := true, recurses := true, apart := false, narrowed := true }
def FnExactRegistryDropUptoSaid : Prop := fnExactRegistryDropUptoRow.holds Try.pinned (OpenSpec.upto fnExactRegistryDropSpec)

end Rows
end Go.Proofs.Ythlhkinkcbamgaa
