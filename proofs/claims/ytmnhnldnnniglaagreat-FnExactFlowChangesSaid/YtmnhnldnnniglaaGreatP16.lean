/- The law: versions do not count. -/
import Derived.Test.YtmnhnldnnniglaaGreatP15
import Derived.Test.YtmnhnldnnniglaaGreatP6
set_option linter.all false
namespace Go.Proofs.YtmnhnldnnniglaaGreat

theorem flowOk_ver {f : Flow} (h : flowOk f = true) : flowOk ⟨1, f.steps⟩ = true := by
  unfold flowOk at h ⊢
  simp only [Bool.and_eq_true] at h ⊢
  refine ⟨?_, ⟨leb_true.2 (by omega), leb_true.2 (by omega)⟩, h.2.2⟩
  have e : flowStep ⟨1, f.steps⟩ = flowStep f := rfl
  rw [e]
  exact h.1

end Go.Proofs.YtmnhnldnnniglaaGreat
