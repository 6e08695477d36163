/-
  No cell of these rows narrows 'for every input' (looked for: loops, veiled, ifaces, maps, wideKeys, modest, calm, conditions, laid).
  DERIVED. THE GIVEN ROWS OF THIS SEAT. 4 by the template 'for every input the law returns true; each argument reads behind the call as it read before'; 0 by the template 'total and deterministic' (their statements: YthmifmpllgofkaaGreatTotals.lean).
  GIVEN WITH THE SEED: the statements are not yours to turn. If you find one false, say at which input.
  Laid BY PROGRAM, IN A SANDBOX (cutbox-rows.mjs): the forced cells as the released guide's own fill.sh prints them over the translation 5ab71a168c78b5d6… (all of the seat's roots in one cut). By AI agents, Wed Nov 11 2026. No macro, syntax, notation, axiom, sorry.
-/
import Derived.Test.YthmifmpllgofkaaGreatChecked
import GoSem.Claim
import GoSem.ClaimJoined
import GoSem.ClaimMapViews
import Derived.JoinedTies
import Derived.KernelRfl
namespace Go.Proofs.YthmifmpllgofkaaGreat
/- THE CELL 'sum', in the pinned program and in every row, IS THE sha256 OF THE DUMP (.gsa) THAT YthmifmpllgofkaaGreatProg.lean LOADS. Nothing in Lean hashes anything: it is a label: what it is worth is what the hold of that sum in a sandbox is worth. -/
noncomputable def Tryz.pinned : Pinned := { name := "ythmifmpllgofkaagreat", sum := "5ab71a168c78b5d6cda1206e1a8233cd5837d860840d65b0c8d86777380d9343", checked := Tryz.checked }
namespace Rows
def none {H : Type} : Left H := { results := [], args := [] }

/-- 'laws.FnMoveMay': WHATEVER THE INPUT: true; the input reads as it did. -/
def fnMoveMaySpec : ChangeSpec := { name := "fnMoveMay", fn := fun _ => fun
  | [d] => { results := [.lit (.bool true)], args := [d] }
  | _ => none }
def fnMoveMayRow : OpenClaim := { program := "ythmifmpllgofkaagreat", sum := "5ab71a168c78b5d6cda1206e1a8233cd5837d860840d65b0c8d86777380d9343", func := "loop.example/sagaflows/laws.FnMoveMay", spec := "fnMoveMay", inPlace := ["internal/bytealg.abigen_runtime_cmpstring"], unfollowed := true, recurses := true, apart := false }
def FnMoveMaySaid : Prop := fnMoveMayRow.holds Tryz.pinned (OpenSpec.ofChange fnMoveMaySpec)

/-- ITS FALSE NEIGHBOUR: 'it returns false'. Refute it at one input. -/
def fnMoveMayWrong : ChangeSpec := { name := "fnMoveMay", fn := fun _ => fun
  | [d] => { results := [.lit (.bool false)], args := [d] }
  | _ => none }
def FnMoveMayWrongFalsely : Prop := fnMoveMayRow.holds Tryz.pinned (OpenSpec.ofChange fnMoveMayWrong)

/-- 'laws.FnExactFlowChange': WHATEVER THE INPUT: true; the input reads as it did. -/
def fnExactFlowChangeSpec : ChangeSpec := { name := "fnExactFlowChange", fn := fun _ => fun
  | [d1, d2] => { results := [.lit (.bool true)], args := [d1, d2] }
  | _ => none }
def fnExactFlowChangeRow : OpenClaim := { program := "ythmifmpllgofkaagreat", sum := "5ab71a168c78b5d6cda1206e1a8233cd5837d860840d65b0c8d86777380d9343", func := "loop.example/sagaflows/laws.FnExactFlowChange", spec := "fnExactFlowChange", inPlace := ["internal/bytealg.abigen_runtime_cmpstring"], unfollowed := true, recurses := true, apart := false }
def FnExactFlowChangeSaid : Prop := fnExactFlowChangeRow.holds Tryz.pinned (OpenSpec.ofChange fnExactFlowChangeSpec)

/-- ITS FALSE NEIGHBOUR: 'it returns false'. Refute it at one input. -/
def fnExactFlowChangeWrong : ChangeSpec := { name := "fnExactFlowChange", fn := fun _ => fun
  | [d1, d2] => { results := [.lit (.bool false)], args := [d1, d2] }
  | _ => none }
def FnExactFlowChangeWrongFalsely : Prop := fnExactFlowChangeRow.holds Tryz.pinned (OpenSpec.ofChange fnExactFlowChangeWrong)

/-- 'laws.FnExactMoveMay': WHATEVER THE INPUT: true; the input reads as it did. -/
def fnExactMoveMaySpec : ChangeSpec := { name := "fnExactMoveMay", fn := fun _ => fun
  | [d1, d2, d3] => { results := [.lit (.bool true)], args := [d1, d2, d3] }
  | _ => none }
def fnExactMoveMayRow : OpenClaim := { program := "ythmifmpllgofkaagreat", sum := "5ab71a168c78b5d6cda1206e1a8233cd5837d860840d65b0c8d86777380d9343", func := "loop.example/sagaflows/laws.FnExactMoveMay", spec := "fnExactMoveMay", inPlace := ["internal/bytealg.abigen_runtime_cmpstring"], unfollowed := true, recurses := true, apart := false }
def FnExactMoveMaySaid : Prop := fnExactMoveMayRow.holds Tryz.pinned (OpenSpec.ofChange fnExactMoveMaySpec)

/-- ITS FALSE NEIGHBOUR: 'it returns false'. Refute it at one input. -/
def fnExactMoveMayWrong : ChangeSpec := { name := "fnExactMoveMay", fn := fun _ => fun
  | [d1, d2, d3] => { results := [.lit (.bool false)], args := [d1, d2, d3] }
  | _ => none }
def FnExactMoveMayWrongFalsely : Prop := fnExactMoveMayRow.holds Tryz.pinned (OpenSpec.ofChange fnExactMoveMayWrong)

/-- 'laws.FnMoveMayNew': WHATEVER THE INPUT: true; the input reads as it did. -/
def fnMoveMayNewSpec : ChangeSpec := { name := "fnMoveMayNew", fn := fun _ => fun
  | [d] => { results := [.lit (.bool true)], args := [d] }
  | _ => none }
def fnMoveMayNewRow : OpenClaim := { program := "ythmifmpllgofkaagreat", sum := "5ab71a168c78b5d6cda1206e1a8233cd5837d860840d65b0c8d86777380d9343", func := "loop.example/sagaflows/laws.FnMoveMayNew", spec := "fnMoveMayNew", inPlace := ["internal/bytealg.abigen_runtime_cmpstring"], unfollowed := true, recurses := true, apart := false }
def FnMoveMayNewSaid : Prop := fnMoveMayNewRow.holds Tryz.pinned (OpenSpec.ofChange fnMoveMayNewSpec)

/-- ITS FALSE NEIGHBOUR: 'it returns false'. Refute it at one input. -/
def fnMoveMayNewWrong : ChangeSpec := { name := "fnMoveMayNew", fn := fun _ => fun
  | [d] => { results := [.lit (.bool false)], args := [d] }
  | _ => none }
def FnMoveMayNewWrongFalsely : Prop := fnMoveMayNewRow.holds Tryz.pinned (OpenSpec.ofChange fnMoveMayNewWrong)

/- THE SECOND FORM. 'bulk': how many values and letters a reading holds, each counted each time it is reached (what is shared counts as often as it is met; a slice's spare places count too). A statement '..UptoSaid' is the law's where the arguments, and the package variables that the reading takes, are together of bulk at most 1048576: NARROWER than '..Said'. Prove '..Said' where nothing that the law and all that it calls make is longer than what came in: it says more and counts as full. Else prove '..UptoSaid'. A law counts once. -/
mutual
def uptoBulk {H : Type} : DataW H → Nat
  | .lit (.string bytes) => bytes.length + 1
  | .lit _ => 1
  | .nil => 1
  | .ptr d => uptoBulk d + 1
  | .slice elems spare => uptoBulkAll elems + uptoBulkAll spare + 1
  | .agg parts => uptoBulkAll parts + 1
  | .iface _ d => uptoBulk d + 1
  | .map entries => uptoBulkEntries entries + 1
  | .held _ => 1
def uptoBulkAll {H : Type} : List (DataW H) → Nat
  | [] => 0
  | d :: r => uptoBulk d + uptoBulkAll r
def uptoBulkEntries {H : Type} : List (Lit × DataW H) → Nat
  | [] => 0
  | x :: r => uptoBulkEntry x + uptoBulkEntries r
def uptoBulkEntry {H : Type} : Lit × DataW H → Nat
  | (.string bytes, d) => bytes.length + uptoBulk d + 1
  | (_, d) => uptoBulk d + 1
 end
def uptoSmall : (H : Type) → List (DataW H) → Bool := fun _ ds => decide (uptoBulkAll ds ≤ 1048576)
def OpenSpec.upto (s : _root_.Go.ChangeSpec) : _root_.Go.OpenSpec := { _root_.Go.OpenSpec.ofChange s with cond := some uptoSmall }

/-- 'laws.FnMoveMay', WHERE WHAT IT READS IS OF BULK AT MOST 1048576: true; the input reads as it did. -/
def fnMoveMayUptoRow : OpenClaim := { program := "ythmifmpllgofkaagreat", sum := "5ab71a168c78b5d6cda1206e1a8233cd5837d860840d65b0c8d86777380d9343", func := "loop.example/sagaflows/laws.FnMoveMay", spec := "fnMoveMay", inPlace := ["internal/bytealg.abigen_runtime_cmpstring"], unfollowed := true, recurses := true, apart := false, narrowed := true }
def FnMoveMayUptoSaid : Prop := fnMoveMayUptoRow.holds Tryz.pinned (OpenSpec.upto fnMoveMaySpec)

/-- 'laws.FnExactFlowChange', WHERE WHAT IT READS IS OF BULK AT MOST 1048576: true; the input reads as it did. -/
def fnExactFlowChangeUptoRow : OpenClaim := { program := "ythmifmpllgofkaagreat", sum := "5ab71a168c78b5d6cda1206e1a8233cd5837d860840d65b0c8d86777380d9343", func := "loop.example/sagaflows/laws.FnExactFlowChange", spec := "fnExactFlowChange", inPlace := ["internal/bytealg.abigen_runtime_cmpstring"], unfollowed := true, recurses := true, apart := false, narrowed := true }
def FnExactFlowChangeUptoSaid : Prop := fnExactFlowChangeUptoRow.holds Tryz.pinned (OpenSpec.upto fnExactFlowChangeSpec)

/-- 'laws.FnExactMoveMay', WHERE WHAT IT READS IS OF BULK AT MOST 1048576: true; the input reads as it did. -/
def fnExactMoveMayUptoRow : OpenClaim := { program := "ythmifmpllgofkaagreat", sum := "5ab71a168c78b5d6cda1206e1a8233cd5837d860840d65b0c8d86777380d9343", func := "loop.example/sagaflows/laws.FnExactMoveMay", spec := "fnExactMoveMay", inPlace := ["internal/bytealg.abigen_runtime_cmpstring"], unfollowed := true, recurses := true, apart := false, narrowed := true }
def FnExactMoveMayUptoSaid : Prop := fnExactMoveMayUptoRow.holds Tryz.pinned (OpenSpec.upto fnExactMoveMaySpec)

/-- 'laws.FnMoveMayNew', WHERE WHAT IT READS IS OF BULK AT MOST 1048576: true; the input reads as it did. -/
def fnMoveMayNewUptoRow : OpenClaim := { program := "ythmifmpllgofkaagreat", sum := "5ab71a168c78b5d6cda1206e1a8233cd5837d860840d65b0c8d86777380d9343", func := "loop.example/sagaflows/laws.FnMoveMayNew", spec := "fnMoveMayNew", inPlace := ["internal/bytealg.abigen_runtime_cmpstring"], unfollowed := true, recurses := true, apart := false, narrowed := true }
def FnMoveMayNewUptoSaid : Prop := fnMoveMayNewUptoRow.holds Tryz.pinned (OpenSpec.upto fnMoveMayNewSpec)

end Rows
end Go.Proofs.YthmifmpllgofkaaGreat
