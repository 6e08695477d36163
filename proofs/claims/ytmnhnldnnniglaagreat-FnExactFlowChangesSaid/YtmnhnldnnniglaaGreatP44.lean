/- Drawn changes; what the laws of changes begin with. -/
import Derived.Test.YtmnhnldnnniglaaGreatP42
import Derived.Test.YtmnhnldnnniglaaGreatP19
set_option linter.all false
namespace Go.Proofs.YtmnhnldnnniglaaGreat

theorem chF_small (f : Flow) (c : Change) : smallF (chF f c).1 8 := by
  unfold chF
  cases (flowOk f && stepOk c.step) with
  | false => exact ⟨by simp, by simp⟩
  | true =>
    simp only [cond_true]
    cases chSteps f.steps c with
    | none => exact ⟨by simp, by simp⟩
    | some st =>
      simp only
      cases h4 : flowOk ⟨f.ver + 1, st⟩ with
      | true => exact flow_small h4
      | false => exact ⟨by simp, by simp⟩

theorem chF_eq {f : Flow} {c : Change} {st : List Step} (h1 : flowOk f = true) (h2 : stepOk c.step = true) (h3 : chSteps f.steps c = some st) : chF f c = bif flowOk ⟨f.ver + 1, st⟩ then (⟨f.ver + 1, st⟩, true) else (⟨0, []⟩, false) := by
  unfold chF
  rw [h1, h2, h3]
  rfl
theorem stepOk_bare {n : Str} {b : Bool} (h : nameOk n = true) : stepOk ⟨n, [], b⟩ = true := by
  unfold stepOk
  rw [h]
  show (ascOk [] && true && !hasB [] n && leb ((0 : Nat) : Int) 4) = true
  rw [leb_true.2 (by omega)]
  rfl
theorem begin1 {u0 : List UInt8} {x : Option Bool} (h : x = some true) : (bif ltb 1048576 ((u0.length : Nat) : Int) then some true else x) = some true := by
  rw [h]
  cases ltb 1048576 ((u0.length : Nat) : Int) <;> rfl
end Go.Proofs.YtmnhnldnnniglaaGreat
