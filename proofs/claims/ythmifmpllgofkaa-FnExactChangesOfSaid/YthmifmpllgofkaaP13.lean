/- A change of a small flow is made, and what is handed back is fine. -/
import Derived.Test.YthmifmpllgofkaaP12
set_option linter.all false
namespace Go.Proofs.Ythmifmpllgofkaa

theorem e_l2Step {N : Nat} {s : Step} (h : s.after.length ≤ 4000000000) : m_spec_l2Step N s = some s := by
  unfold m_spec_l2Step
  rw [appd_ok (by simp; omega)]; rfl

end Go.Proofs.Ythmifmpllgofkaa
