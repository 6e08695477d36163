/- Drawn names, steps and changes are small. -/
import Derived.Test.YtmnhnldnnniglaaGreatP7
set_option linter.all false
namespace Go.Proofs.YtmnhnldnnniglaaGreat

/-- A fine flow is small. -/
theorem asc_small {l : List Str} (h : ascOk l = true) : ∀ x ∈ l, x.size ≤ 8 := by
  intro x hx
  obtain ⟨i, hi, rfl⟩ := List.getElem_of_mem hx
  have := allIdx_true.1 h i hi
  unfold ascP at this
  rw [Bool.and_eq_true] at this
  have := (nameOk_size this.1).2
  omega
theorem step_small {s : Step} (h : stepOk s = true) : smallS s 8 := by
  have hn := (nameOk_size (stepOk_name h)).2
  unfold stepOk at h
  simp only [Bool.and_eq_true] at h
  have h4 := leb_true.1 h.2
  exact ⟨by omega, by omega, asc_small h.1.1.1⟩
theorem flow_small {f : Flow} (h : flowOk f = true) : smallF f 8 := by
  unfold flowOk at h
  simp only [Bool.and_eq_true] at h
  have h8 := leb_true.1 h.2.2.1.2
  refine ⟨by omega, fun s hs => ?_⟩
  obtain ⟨i, hi, rfl⟩ := List.getElem_of_mem hs
  have := allIdx_true.1 h.1 i hi
  unfold flowStep at this
  rw [Bool.and_eq_true] at this
  exact step_small this.1
theorem flow_some {f : Flow} (h : flowOk f = true) : 0 < f.steps.length := by
  unfold flowOk at h
  simp only [Bool.and_eq_true] at h
  have := leb_true.1 h.2.2.1.1
  omega
end Go.Proofs.YtmnhnldnnniglaaGreat
