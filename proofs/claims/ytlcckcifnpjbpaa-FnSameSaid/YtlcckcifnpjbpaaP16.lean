/- The law: versions do not count. -/
import Derived.Test.YtlcckcifnpjbpaaP15
import Derived.Test.YtlcckcifnpjbpaaP6
set_option linter.all false
namespace Go.Proofs.Ytlcckcifnpjbpaa

theorem d_Other {N : Nat} {cd : List UInt8} {x : Int × Nat} (hx : x.1 ≤ 5) (hN : 100 < N) : ∀ (m n p k : Nat) (v : Int) (l : List Step), 5 - k = m → k ≤ 5 → m < n → p + 100 * m ≤ 1000000000 → flowOk ⟨v, l⟩ = true →
    ∃ p' v' l' k', m_spec_l92Other_L11 N cd x n p v l k = some (.brk (p', v', l', k')) ∧ p' ≤ p + 100 * m ∧ flowOk ⟨v', l'⟩ = true
  | 0, n, p, k, v, l, hm, hk, hn, hp, ho => by
    obtain ⟨n, rfl⟩ : ∃ n', n = n' + 1 := ⟨n - 1, by omega⟩
    refine ⟨p, v, l, k, ?_, by omega, ho⟩
    simp only [m_spec_l92Other_L11]
    rw [ltb_false.2 (by omega)]; rfl
  | m + 1, n, p, k, v, l, hm, hk, hn, hp, ho => by
    obtain ⟨n, rfl⟩ : ∃ n', n = n' + 1 := ⟨n - 1, by omega⟩
    simp only [m_spec_l92Other_L11]
    cases ltb ((k : Nat) : Int) x.1 with
    | false => exact ⟨p, v, l, k, rfl, by omega, ho⟩
    | true =>
      simp only [cond_true]
      have hs := flow_small ho
      obtain ⟨c, q, h1, h2, h3⟩ := e_l92Change (N := N) (cd := cd) (p := p) hs (flow_some ho) hN (by omega)
      rw [h1, Option.bind_some]
      simp only
      obtain ⟨r, g1, g2⟩ := e_FlowChange_ok (N := N) hs h3 hN
      rw [g1, Option.bind_some]
      cases hr : r.2 with
      | true =>
        simp only [cond_true]
        obtain ⟨p', v', l', k', k1, k2, k3⟩ := d_Other (N := N) (cd := cd) hx hN m n q (k + 1) r.1.ver r.1.steps (by omega) (by omega) (by omega) (by omega) (g2 hr)
        exact ⟨p', v', l', k', k1, by omega, k3⟩
      | false =>
        simp only [cond_false]
        obtain ⟨p', v', l', k', k1, k2, k3⟩ := d_Other (N := N) (cd := cd) hx hN m n q (k + 1) v l (by omega) (by omega) (by omega) (by omega) ho
        exact ⟨p', v', l', k', k1, by omega, k3⟩

theorem e_l92Other {N : Nat} {cd : List UInt8} {p : Nat} {f : Flow} (hf : smallF f 8) (hN : 100 < N) (hp : p + 1000 ≤ 1000000000) : ∃ g p', m_spec_l92Other N cd p f = some (g, p') ∧ p' ≤ p + 1000 ∧ smallF g 8 := by
  unfold m_spec_l92Other
  rw [pick_two (by omega)]
  simp only
  obtain ⟨g, q, h1, h2, h3⟩ := e_l91Flow (N := N) (cd := cd) (p := p + 1) (by omega) (by omega)
  cases eqb ((pickv cd p 3 : Nat) : Int) 0 with
  | true => simp only [cond_true]; rw [h1]; exact ⟨g, q, rfl, by omega, h3⟩
  | false =>
    simp only [cond_false]
    rw [e_spec_FlowValid hf (by omega) (by omega), Option.bind_some]
    cases ho : flowOk f with
    | false => simp only [Bool.not_false, cond_true]; rw [h1]; exact ⟨g, q, rfl, by omega, h3⟩
    | true =>
      simp only [Bool.not_true, cond_false]
      rw [e_l2Copy hf (by omega) (by omega), Option.bind_some, pick_two (by omega)]
      have hv := pickv_lt (cd := cd) (p := p + 1) (m := 3) (by omega)
      obtain ⟨p', v', l', k', k1, k2, k3⟩ := d_Other (N := N) (cd := cd) (x := (((pickv cd (p + 1) 3 : Nat) : Int), p + 1 + 1)) (by simp only; omega) hN 5 N (p + 1 + 1) 0 f.ver f.steps rfl (by omega) (by omega) (by omega) ho
      simp only
      rw [k1]
      exact ⟨_, _, rfl, by omega, flow_small k3⟩

theorem e_DrawFlowsSame {N : Nat} {code : List UInt8} (hN : 100 < N) : ∃ f g, m_spec_DrawFlowsSame N code = some (f, g) ∧ smallF f 8 ∧ smallF g 8 := by
  unfold m_spec_DrawFlowsSame
  obtain ⟨f, p, h1, h2, h3⟩ := e_l91Flow (N := N) (cd := code.take 2000) (p := 0) (by omega) (by omega)
  rw [h1, Option.bind_some]
  simp only
  rw [pick_two (by omega)]
  simp only
  cases eqb ((pickv (code.take 2000) p 2 : Nat) : Int) 0 with
  | true =>
    simp only [cond_true]
    rw [e_l2Copy h3 (by omega) (by omega), Option.bind_some, pick_two (by omega)]
    exact ⟨_, _, rfl, h3, h3⟩
  | false =>
    simp only [cond_false]
    obtain ⟨g, q, g1, g2, g3⟩ := e_l92Other (N := N) (cd := code.take 2000) (p := p + 1) h3 hN (by omega)
    rw [g1]
    exact ⟨_, _, rfl, h3, g3⟩

theorem flowOk_ver {f : Flow} (h : flowOk f = true) : flowOk ⟨1, f.steps⟩ = true := by
  unfold flowOk at h ⊢
  simp only [Bool.and_eq_true] at h ⊢
  refine ⟨?_, ⟨leb_true.2 (by omega), leb_true.2 (by omega)⟩, h.2.2⟩
  have e : flowStep ⟨1, f.steps⟩ = flowStep f := rfl
  rw [e]
  exact h.1

/-- The law. -/
theorem p_FnSameVersion (u0 : List UInt8) : ∃ N, m_laws_FnSameVersion N u0 = some true := by
  refine ⟨200, ?_⟩
  unfold m_laws_FnSameVersion
  by_cases c0 : ltb 1048576 ((u0.length : Nat) : Int) = true
  · rw [c0, cond_true]
  rw [Bool.not_eq_true] at c0
  rw [c0, cond_false]
  obtain ⟨f, g, h1, hf, hg⟩ := e_DrawFlowsSame (N := 200) (code := u0) (by omega)
  rw [h1, Option.bind_some]
  simp only
  rw [e_impl_FlowsSame hf hg (by omega) (by omega), Option.bind_some, e_spec_FlowsSame hf hg (by omega) (by omega), Option.bind_some]
  simp only [bne_self_eq_false, cond_false, beq_self_eq_true]
  rw [e_spec_FlowValid hf (by omega) (by omega), Option.bind_some]
  cases ho : flowOk f with
  | false => rfl
  | true =>
    have h0 := flow_some ho
    simp only [Bool.not_true, cond_false]
    rw [show ((f.steps.length : Nat) : Int) - 1 = ((f.steps.length - 1 : Nat) : Int) by omega, slTo_nat (by omega), Option.bind_some]
    have hx : smallF ⟨1, f.steps⟩ 8 := hf
    have hy : smallF ⟨1, f.steps.take (f.steps.length - 1)⟩ 8 := ⟨by have := hf.1; simp; omega, fun s hs => hf.2 s (List.mem_of_mem_take hs)⟩
    rw [e_impl_FlowsSame hf hx (by omega) (by omega), Option.bind_some]
    have e1 : sameF f ⟨1, f.steps⟩ = true := by
      unfold sameF
      rw [ho, flowOk_ver ho, eqb_true.2 rfl]
      simp only [Bool.true_and]
      rw [allIdx_true]
      intro i hi
      simp only [Nat.zero_add, List.getElem?_eq_getElem hi]
      exact (stepEq_true _ _).2 rfl
    rw [e1, cond_true, e_impl_FlowsSame hf hy (by omega) (by omega), Option.bind_some]
    have e2 : sameF f ⟨1, f.steps.take (f.steps.length - 1)⟩ = false := by
      unfold sameF
      have : eqb ((f.steps.length : Nat) : Int) (((f.steps.take (f.steps.length - 1)).length : Nat) : Int) = false := eqb_false.2 (by simp; omega)
      simp only [this, Bool.false_and, Bool.and_false]
    rw [e2]
    rfl
end Go.Proofs.Ytlcckcifnpjbpaa
