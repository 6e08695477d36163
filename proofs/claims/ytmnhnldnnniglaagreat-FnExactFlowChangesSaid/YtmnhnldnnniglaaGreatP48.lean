/- Exact laws: a change of a flow; who may move along with it. -/
import Derived.Test.YtmnhnldnnniglaaGreatP46
import Derived.Test.YtmnhnldnnniglaaGreatP6
import Derived.Test.YtmnhnldnnniglaaGreatP22
set_option linter.all false
namespace Go.Proofs.YtmnhnldnnniglaaGreat

theorem wsum_bdD {α : Type} {c : α → Nat} {C : Nat} : ∀ {l : List α}, (∀ x ∈ l, c x ≤ C) → wsum c l ≤ l.length * C
  | [], _ => by simp [wsum]
  | x :: t, h => by
    have h1 := h x (by simp)
    have h2 := wsum_bdD (l := t) (fun y hy => h y (by simp [hy]))
    simp only [wsum, List.map_cons, List.sum_cons, List.length_cons, Nat.add_mul, Nat.one_mul] at h2 ⊢
    omega
theorem cFlow_bdD {f : Flow} (h : smallF f 1048576) : cFlow f ≤ 1099513724928 := by
  have h1 : wsum cStep f.steps ≤ f.steps.length * 1048578 := wsum_bdD fun s hs => by
    have := (h.2 s hs).2.1
    unfold cStep
    omega
  have := h.1
  unfold cFlow
  have h2 : f.steps.length * 1048578 ≤ 1048576 * 1048578 := Nat.mul_le_mul_right _ this
  omega
theorem hugeS_of {s : Step} (h : szS s) : hugeS s := ⟨h.1, h.2.1⟩
theorem e_toChange1 {N B : Nat} {c : Change} (hc : smallS c.step B) (hB : B ≤ 4000000000) (hN : B < N) : m_laws_toChange N c = some c := by
  have := hc.2.1
  unfold m_laws_toChange
  rw [e_toStep (by omega) (by omega)]; rfl
theorem e_szChange1 {N : Nat} {c : Change} {left : Int} (h : szC c) (hN : 140737488351232 < N) (h0 : 0 ≤ left) (h1 : left ≤ 1048576) : m_laws_szChange N c left = some (gz (wStep c.step) left) := by
  unfold m_laws_szChange
  rw [e_szStep (hugeS_of h.2) hN h0 h1, Option.bind_some]
  by_cases hd : gz (wStep c.step) left < 0
  · rw [ltb_true.2 hd, gz_m1 h0 hd]; rfl
  · rw [ltb_false.2 (by omega)]; rfl
theorem e_eqChange1 {N : Nat} {c : Change} (hN : c.step.after.length < N) : m_laws_eqChange N c c = some true := by
  unfold m_laws_eqChange
  rw [eqb_true.2 rfl, e_eqStep_self hN]; rfl
theorem eqb_same {a : Int} : eqb a a = true := eqb_true.2 rfl
end Go.Proofs.YtmnhnldnnniglaaGreat
