/- The laws: what does not fit; same flows. -/
import Derived.Test.YtmnhnldnnniglaaGreatP16
import Derived.Test.YtmnhnldnnniglaaGreatP18
set_option linter.all false
namespace Go.Proofs.YtmnhnldnnniglaaGreat

theorem ord_snoc {f : Flow} (hok : flowOk f = true) {d : List Str} {s : Step} (h : ordOk f.steps d = true) (hs : f.steps.find? (free d) = some s) : ordOk f.steps (d ++ [s.name]) = true := by
  rw [ord_at] at h ⊢
  intro i hi
  rw [List.length_append, List.length_singleton] at hi
  rcases Nat.lt_or_ge i d.length with h1 | h1
  · have := h i h1
    rw [List.getElem_append_left h1]
    unfold badK at this ⊢
    rwa [List.take_append_of_le_length (by omega)]
  · obtain rfl : i = d.length := by omega
    rw [bad_free hok, List.take_append_of_le_length (Nat.le_refl _), List.take_length]
    have hm : hasB ((f.steps.filter (free d)).map (·.name)) s.name = true := hasB_true.2 (List.mem_map.2 ⟨s, List.mem_filter.2 ⟨List.mem_of_find?_eq_some hs, List.find?_some hs⟩, rfl⟩)
    simp only [List.getElem_concat_length]
    rw [hm]; rfl
theorem ord_ordN {f : Flow} (hok : flowOk f = true) : ∀ (n : Nat) (d : List Str), ordOk f.steps d = true → ordOk f.steps (ordN f.steps n d) = true
  | 0, d, h => h
  | n + 1, d, h => by
    unfold ordN
    cases hs : f.steps.find? (free d) with
    | none => exact h
    | some s => exact ord_ordN hok n _ (ord_snoc hok h hs)

theorem sameF_of {f g : Flow} (h1 : flowOk f = true) (h2 : flowOk g = true) (h3 : f.steps = g.steps) : sameF f g = true := by
  unfold sameF
  rw [h1, h2, h3, eqb_true.2 rfl]
  simp only [Bool.true_and]
  rw [allIdx_true]
  intro i hi
  rw [Nat.zero_add, List.getElem?_eq_getElem hi]
  exact (stepEq_true _ _).2 rfl
end Go.Proofs.YtmnhnldnnniglaaGreat
