/- Exact laws: runs that fit, registries. -/
import Derived.Test.YthlhkinkcbamgaaP20
import Derived.Test.YthlhkinkcbamgaaP22
import Derived.Test.YthlhkinkcbamgaaP10
set_option linter.all false
namespace Go.Proofs.Ythlhkinkcbamgaa

theorem wsum_bd {α : Type} {c : α → Nat} {C : Nat} : ∀ {l : List α}, (∀ x ∈ l, c x ≤ C) → wsum c l ≤ l.length * C
  | [], _ => by simp [wsum]
  | x :: t, h => by
    have h1 := h x (by simp)
    have h2 := wsum_bd (l := t) (fun y hy => h y (by simp [hy]))
    simp only [wsum, List.map_cons, List.sum_cons, List.length_cons, Nat.add_mul, Nat.one_mul] at h2 ⊢
    omega
theorem cFlow_bd {f : Flow} (h : smallF f 1048576) : cFlow f ≤ 1099513724928 := by
  have h1 : wsum cStep f.steps ≤ f.steps.length * 1048578 := wsum_bd fun s hs => by
    have := (h.2 s hs).2.1
    unfold cStep
    omega
  have := h.1
  unfold cFlow
  have h2 : f.steps.length * 1048578 ≤ 1048576 * 1048578 := Nat.mul_le_mul_right _ this
  omega
theorem cFlows_bd {l : List Flow} (h : smallR l 1048576) : wsum cFlow1 l ≤ 1152923703631839232 + 1048576 := by
  have h1 : wsum cFlow1 l ≤ l.length * 1099513724929 := wsum_bd fun f hf => by
    have := cFlow_bd (h.2 f hf)
    unfold cFlow1
    omega
  have h2 : l.length * 1099513724929 ≤ 1048576 * 1099513724929 := Nat.mul_le_mul_right _ h.1
  omega

theorem e_toRun {N : Nat} {r : Run} (hl : r.done.length ≤ 4000000000) (hN : r.done.length < N) : m_laws_toRun N r = some r := by
  unfold m_laws_toRun
  rw [e_toStringS hl hN]; rfl
theorem e_szRun {N : Nat} {r : Run} {left : Int} (h : hugeL r.done) (hN : 140737488351232 < N) (h0 : 0 ≤ left) (h1 : left ≤ 1048576) : m_laws_szRun N r left = some (gz (wStrs r.done) left) := by
  unfold m_laws_szRun
  rw [e_szStringS h hN h0 h1, Option.bind_some]
  by_cases hd : gz (wStrs r.done) left < 0
  · rw [ltb_true.2 hd, gz_m1 h0 hd]; rfl
  · rw [ltb_false.2 (by omega)]; rfl
theorem e_eqRun_self {N : Nat} {r : Run} (hN : r.done.length < N) : m_laws_eqRun N r r = some true := by
  unfold m_laws_eqRun
  rw [eqb_true.2 rfl, e_eqStringS hN, decide_eq_true rfl]; rfl
theorem eqb_self {a : Int} : eqb a a = true := eqb_true.2 rfl

end Go.Proofs.Ythlhkinkcbamgaa
