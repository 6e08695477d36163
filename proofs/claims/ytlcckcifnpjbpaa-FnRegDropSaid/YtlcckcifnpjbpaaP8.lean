/- The law: what is found has the version. -/
import Derived.Test.YtlcckcifnpjbpaaP7
import Derived.Test.YtlcckcifnpjbpaaP6
set_option linter.all false
namespace Go.Proofs.Ytlcckcifnpjbpaa

theorem e_l92Version {N : Nat} {cd : List UInt8} {p : Nat} (hN : 10 < N) (hp : p + 3000 ≤ 1000000000) : ∃ l v p', m_spec_l92Version N cd p = some ((l, v), p') ∧ p' ≤ p + 3000 ∧ smallR l 8 := by
  unfold m_spec_l92Version
  obtain ⟨l, q, h1, h2, h3, h4⟩ := e_l92Registry (N := N) (cd := cd) (p := p) hN (by omega)
  have hs : smallR l 8 := ⟨by omega, h4⟩
  rw [h1, Option.bind_some]
  simp only
  by_cases hl : 0 < l.length
  · rw [ltb_true.2 (by omega), cond_true, pick_two (by omega), Option.bind_some]
    simp only
    cases ltb 0 ((pickv cd q 5 : Nat) : Int) with
    | true =>
      simp only [cond_true]
      rw [pick_two (by omega)]
      have hv := pickv_lt (cd := cd) (p := q + 1) (m := ((l.length : Nat) : Int)) (by omega)
      simp only
      rw [geti_nat, List.getElem?_eq_getElem (by omega)]
      exact ⟨l, _, _, rfl, by omega, hs⟩
    | false =>
      simp only [cond_false]
      rw [pick_two (by omega)]
      exact ⟨l, _, _, rfl, by omega, hs⟩
  · rw [ltb_false.2 (by omega), cond_false, Option.bind_some]
    simp only [cond_false]
    rw [pick_two (by omega)]
    exact ⟨l, _, _, rfl, by omega, hs⟩

end Go.Proofs.Ytlcckcifnpjbpaa
