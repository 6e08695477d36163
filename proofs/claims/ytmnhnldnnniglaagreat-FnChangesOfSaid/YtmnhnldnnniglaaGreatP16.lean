/- The law: versions do not count. -/
import Derived.Test.YtmnhnldnnniglaaGreatP15
import Derived.Test.YtmnhnldnnniglaaGreatP6
set_option linter.all false
namespace Go.Proofs.YtmnhnldnnniglaaGreat

theorem d_Other {N : Nat} {cd : List UInt8} {x : Int × Nat} (hx : x.1 ≤ 5) (hN : 100 < N) : ∀ (m n p k : Nat) (v : Int) (l : List Step), 5 - k = m → k ≤ 5 → m < n → p + 100 * m ≤ 1000000000 → flowOk ⟨v, l⟩ = true →
    ∃ p' v' l' k', m_spec_l92Other_L11 N cd x n p v l k = some (.brk (p', v', l', k')) ∧ p' ≤ p + 100 * m ∧ flowOk ⟨v', l'⟩ = true
  | 0, n, p, k, v, l, hm, hk, hn, hp, ho => by
    obtain ⟨n, rfl⟩ : ∃ n', n = n' + 1 := ⟨n - 1, by omega⟩
    refine ⟨p, v, l, k, ?_, by omega, ho⟩
    simp only [m_spec_l92Other_L11]
    rw [ltb_false.2 (by omega)]; rfl
  | m + 1, n, p, k, v, l, hm, hk, hn, hp, ho => by
    obtain ⟨n, rfl⟩ : ∃ n', n = n' + 1 := ⟨n - 1, by omega⟩
    simp only [m_spec_l92Other_L11]
    cases ltb ((k : Nat) : Int) x.1 with
    | false => exact ⟨p, v, l, k, rfl, by omega, ho⟩
    | true =>
      simp only [cond_true]
      have hs := flow_small ho
      obtain ⟨c, q, h1, h2, h3⟩ := e_l92Change (N := N) (cd := cd) (p := p) hs (flow_some ho) hN (by omega)
      rw [h1, Option.bind_some]
      simp only
      obtain ⟨r, g1, g2⟩ := e_FlowChange_ok (N := N) hs h3 hN
      rw [g1, Option.bind_some]
      cases hr : r.2 with
      | true =>
        simp only [cond_true]
        obtain ⟨p', v', l', k', k1, k2, k3⟩ := d_Other (N := N) (cd := cd) hx hN m n q (k + 1) r.1.ver r.1.steps (by omega) (by omega) (by omega) (by omega) (g2 hr)
        exact ⟨p', v', l', k', k1, by omega, k3⟩
      | false =>
        simp only [cond_false]
        obtain ⟨p', v', l', k', k1, k2, k3⟩ := d_Other (N := N) (cd := cd) hx hN m n q (k + 1) v l (by omega) (by omega) (by omega) (by omega) ho
        exact ⟨p', v', l', k', k1, by omega, k3⟩

theorem e_l92Other {N : Nat} {cd : List UInt8} {p : Nat} {f : Flow} (hf : smallF f 8) (hN : 100 < N) (hp : p + 1000 ≤ 1000000000) : ∃ g p', m_spec_l92Other N cd p f = some (g, p') ∧ p' ≤ p + 1000 ∧ smallF g 8 := by
  unfold m_spec_l92Other
  rw [pick_two (by omega)]
  simp only
  obtain ⟨g, q, h1, h2, h3⟩ := e_l91Flow (N := N) (cd := cd) (p := p + 1) (by omega) (by omega)
  cases eqb ((pickv cd p 3 : Nat) : Int) 0 with
  | true => simp only [cond_true]; rw [h1]; exact ⟨g, q, rfl, by omega, h3⟩
  | false =>
    simp only [cond_false]
    rw [e_spec_FlowValid hf (by omega) (by omega), Option.bind_some]
    cases ho : flowOk f with
    | false => simp only [Bool.not_false, cond_true]; rw [h1]; exact ⟨g, q, rfl, by omega, h3⟩
    | true =>
      simp only [Bool.not_true, cond_false]
      rw [e_l2Copy hf (by omega) (by omega), Option.bind_some, pick_two (by omega)]
      have hv := pickv_lt (cd := cd) (p := p + 1) (m := 3) (by omega)
      obtain ⟨p', v', l', k', k1, k2, k3⟩ := d_Other (N := N) (cd := cd) (x := (((pickv cd (p + 1) 3 : Nat) : Int), p + 1 + 1)) (by simp only; omega) hN 5 N (p + 1 + 1) 0 f.ver f.steps rfl (by omega) (by omega) (by omega) ho
      simp only
      rw [k1]
      exact ⟨_, _, rfl, by omega, flow_small k3⟩

end Go.Proofs.YtmnhnldnnniglaaGreat
