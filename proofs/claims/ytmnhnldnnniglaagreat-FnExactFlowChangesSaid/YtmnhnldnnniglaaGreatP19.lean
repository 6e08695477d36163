/- The laws: what does not fit; same flows. -/
import Derived.Test.YtmnhnldnnniglaaGreatP16
import Derived.Test.YtmnhnldnnniglaaGreatP18
set_option linter.all false
namespace Go.Proofs.YtmnhnldnnniglaaGreat

theorem small_up {f : Flow} {B C : Nat} (hf : smallF f B) (h : B ≤ C) : smallF f C := ⟨by have := hf.1; omega, fun s hs => ⟨by have := (hf.2 s hs).1; omega, by have := (hf.2 s hs).2.1; omega, fun z hz => by have := (hf.2 s hs).2.2 z hz; omega⟩⟩

theorem both_true {g : Flow} {d : List Str} (h : (bothBad g d).2 = true) : flowOk g = true ∧ ∃ i, ∃ hi : i < d.length, (bothBad g d).1 = d[i] ∧ badK g.steps d i d[i] = true ∧ ∀ j (hj : j < i), badK g.steps d j (d[j]'(by omega)) = false := by
  unfold bothBad at h ⊢
  cases hok : flowOk g with
  | false => rw [hok] at h; cases h
  | true =>
    rw [hok] at h
    simp only [cond_true] at h ⊢
    unfold badOf at h ⊢
    rcases firstBad_cases g.steps d d 0 with ⟨h1, _⟩ | ⟨i, hi, h1, h2, h3⟩
    · rw [h1] at h; cases h
    · rw [h1]
      exact ⟨trivial, i, hi, rfl, by simpa using h2, fun j hj => by simpa using h3 j hj⟩

/-! ## The order of a flow fits it -/

theorem bad_take {steps : List Step} {l : List Str} {m i : Nat} {y : Str} (h : i ≤ m) : badK steps (l.take m) i y = badK steps l i y := by
  unfold badK
  rw [List.take_take, Nat.min_eq_left h]
theorem ord_take {steps : List Step} {l : List Str} (h : ordOk steps l = true) (m : Nat) : ordOk steps (l.take m) = true := by
  rw [ord_at] at h ⊢
  intro i hi
  rw [List.length_take] at hi
  rw [bad_take (by omega), List.getElem_take]
  exact h i (by omega)
theorem ord_snoc {f : Flow} (hok : flowOk f = true) {d : List Str} {s : Step} (h : ordOk f.steps d = true) (hs : f.steps.find? (free d) = some s) : ordOk f.steps (d ++ [s.name]) = true := by
  rw [ord_at] at h ⊢
  intro i hi
  rw [List.length_append, List.length_singleton] at hi
  rcases Nat.lt_or_ge i d.length with h1 | h1
  · have := h i h1
    rw [List.getElem_append_left h1]
    unfold badK at this ⊢
    rwa [List.take_append_of_le_length (by omega)]
  · obtain rfl : i = d.length := by omega
    rw [bad_free hok, List.take_append_of_le_length (Nat.le_refl _), List.take_length]
    have hm : hasB ((f.steps.filter (free d)).map (·.name)) s.name = true := hasB_true.2 (List.mem_map.2 ⟨s, List.mem_filter.2 ⟨List.mem_of_find?_eq_some hs, List.find?_some hs⟩, rfl⟩)
    simp only [List.getElem_concat_length]
    rw [hm]; rfl
theorem ord_ordN {f : Flow} (hok : flowOk f = true) : ∀ (n : Nat) (d : List Str), ordOk f.steps d = true → ordOk f.steps (ordN f.steps n d) = true
  | 0, d, h => h
  | n + 1, d, h => by
    unfold ordN
    cases hs : f.steps.find? (free d) with
    | none => exact h
    | some s => exact ord_ordN hok n _ (ord_snoc hok h hs)

/-! ## Same flows -/

theorem sameF_steps {f g : Flow} (h : sameF f g = true) : flowOk f = true ∧ flowOk g = true ∧ f.steps = g.steps := by
  unfold sameF at h
  rw [Bool.and_eq_true, Bool.and_eq_true, Bool.and_eq_true, eqb_true, allIdx_true] at h
  obtain ⟨h1, h2, h3, h4⟩ := h
  refine ⟨h1, h2, List.ext_getElem (by omega) fun i hi hj => ?_⟩
  have := h4 i hi
  rw [Nat.zero_add, List.getElem?_eq_getElem hj] at this
  exact (stepEq_true _ _).1 this
theorem sameF_of {f g : Flow} (h1 : flowOk f = true) (h2 : flowOk g = true) (h3 : f.steps = g.steps) : sameF f g = true := by
  unfold sameF
  rw [h1, h2, h3, eqb_true.2 rfl]
  simp only [Bool.true_and]
  rw [allIdx_true]
  intro i hi
  rw [Nat.zero_add, List.getElem?_eq_getElem hi]
  exact (stepEq_true _ _).2 rfl
end Go.Proofs.YtmnhnldnnniglaaGreat
