/- Drawn changes, and flows that are drawn by changing another. -/
import Derived.Test.YtmnhnldnnniglaaP14
set_option linter.all false
namespace Go.Proofs.Ytmnhnldnnniglaa

theorem d_Change {N : Nat} {cd : List UInt8} {f : Flow} {j : Nat × Str} (hf : smallF f 8) : ∀ (m n p k : Nat) (a : List Str), f.steps.length - k = m → k ≤ f.steps.length → m < n → p + m ≤ 1000000000 → a.length ≤ 4 → (∀ x ∈ a, x.size ≤ 8) →
    ∃ p' a' k', m_spec_l92Change_L11 N cd f j n p a k = some (.brk (p', a', k')) ∧ p' ≤ p + m ∧ a'.length ≤ 4 ∧ ∀ x ∈ a', x.size ≤ 8
  | 0, n, p, k, a, hm, hk, hn, hp, ha, hs => by
    obtain ⟨n, rfl⟩ : ∃ n', n = n' + 1 := ⟨n - 1, by omega⟩
    refine ⟨p, a, k, ?_, by omega, ha, hs⟩
    simp only [m_spec_l92Change_L11]
    rw [ltb_false.2 (by omega)]; rfl
  | m + 1, n, p, k, a, hm, hk, hn, hp, ha, hs => by
    obtain ⟨n, rfl⟩ : ∃ n', n = n' + 1 := ⟨n - 1, by omega⟩
    have hkl : k < f.steps.length := by omega
    simp only [m_spec_l92Change_L11]
    rw [ltb_true.2 (by omega), cond_true]
    by_cases hlt : a.length < 4
    · rw [ltb_true.2 (by omega), cond_true, List.getElem?_eq_getElem hkl, Option.bind_some]
      cases seq f.steps[k].name j.2 with
      | true =>
        simp only [Bool.not_true, cond_false]
        obtain ⟨p', a', k', h1, h2, h3, h4⟩ := d_Change (N := N) (cd := cd) (j := j) hf m n p (k + 1) a (by omega) (by omega) (by omega) (by omega) ha hs
        exact ⟨p', a', k', h1, by omega, h3, h4⟩
      | false =>
        simp only [Bool.not_false, cond_true]
        rw [pick_two (by omega)]
        simp only
        cases eqb ((pickv cd p 4 : Nat) : Int) 0 with
        | false =>
          simp only [cond_false]
          obtain ⟨p', a', k', h1, h2, h3, h4⟩ := d_Change (N := N) (cd := cd) (j := j) hf m n (p + 1) (k + 1) a (by omega) (by omega) (by omega) (by omega) ha hs
          exact ⟨p', a', k', h1, by omega, h3, h4⟩
        | true =>
          simp only [cond_true]
          rw [appd_ok (by simp; omega), Option.bind_some]
          obtain ⟨p', a', k', h1, h2, h3, h4⟩ := d_Change (N := N) (cd := cd) (j := j) hf m n (p + 1) (k + 1) (a ++ [f.steps[k].name]) (by omega) (by omega) (by omega) (by omega) (by simp; omega) (fun x hx => by
            rcases List.mem_append.1 hx with h | h
            · exact hs x h
            · rw [List.mem_singleton.1 h]; exact (hf.2 _ (List.getElem_mem hkl)).1)
          exact ⟨p', a', k', h1, by omega, h3, h4⟩
    · rw [ltb_false.2 (by omega), cond_false]
      exact ⟨p, a, k, rfl, by omega, ha, hs⟩

theorem e_l92Change {N : Nat} {cd : List UInt8} {p : Nat} {f : Flow} (hf : smallF f 8) (h0 : 0 < f.steps.length) (hN : 100 < N) (hp : p + 100 ≤ 1000000000) : ∃ c p', m_spec_l92Change N cd p f = some (c, p') ∧ p' ≤ p + 100 ∧ smallS c.step 8 := by
  have hl := hf.1
  unfold m_spec_l92Change
  rw [pick_two (by omega)]
  simp only
  obtain ⟨s, q, h1, h2, h3⟩ := e_l91Step (N := N) (cd := cd) (p := p + 1) (by omega) (by omega)
  rw [h1, Option.bind_some]
  simp only
  obtain ⟨q2, nm, g1, g2, g3⟩ : ∃ q2 nm, ((bif eqb (w64 (1 + ((pickv cd p 4 : Nat) : Int))) 1 then (m_spec_l6Rd_of N cd q ([(⟨#[97, 97]⟩ : Str), (⟨#[103]⟩ : Str), (⟨#[104]⟩ : Str), (⟨#[99]⟩ : Str), (⟨#[101]⟩ : Str)] : List Str)).bind fun x19 => some (x19.2, x19.1)
 else (m_spec_l6Rd_pick N cd q 6).bind fun x23 => (bif ltb 0 x23.1 then (m_spec_l6Rd_pick N cd x23.2 ((f.steps.length : Nat) : Int)).bind fun x31 => (geti f.steps x31.1).bind fun y32 => some (x31.2, y32.name)
 else some (x23.2, s.name))) : Option (Nat × Str)) = some (q2, nm) ∧ q2 ≤ q + 2 ∧ nm.size ≤ 8 := by
    cases eqb (w64 (1 + ((pickv cd p 4 : Nat) : Int))) 1 with
    | true =>
      obtain ⟨x, k1, k2⟩ := e_of (N := N) (cd := cd) (p := q) (l := [(⟨#[97, 97]⟩ : Str), (⟨#[103]⟩ : Str), (⟨#[104]⟩ : Str), (⟨#[99]⟩ : Str), (⟨#[101]⟩ : Str)]) (B := 8) (by omega) (by simp) (by decide)
      simp only [cond_true]
      rw [k1]
      exact ⟨_, _, rfl, by omega, k2⟩
    | false =>
      simp only [cond_false]
      rw [pick_two (by omega)]
      simp only
      cases ltb 0 ((pickv cd q 6 : Nat) : Int) with
      | false => exact ⟨_, _, rfl, by omega, h3.1⟩
      | true =>
        simp only [cond_true]
        rw [pick_two (by omega)]
        have hv := pickv_lt (cd := cd) (p := q + 1) (m := ((f.steps.length : Nat) : Int)) (by omega)
        simp only
        rw [geti_nat, List.getElem?_eq_getElem (by omega)]
        exact ⟨_, _, rfl, by omega, (hf.2 _ (List.getElem_mem _)).1⟩
  rw [g1, Option.bind_some]
  simp only
  obtain ⟨q3, a, k, k1, k2, k3, k4⟩ := d_Change (N := N) (cd := cd) (j := (q2, nm)) hf f.steps.length N q2 0 [] (by omega) (by omega) (by omega) (by omega) (by simp) (by simp)
  rw [k1, Option.bind_some]
  simp only [Ex.go]
  rw [pick_two (by omega)]
  simp only
  cases eqb ((pickv cd q3 30 : Nat) : Int) 0 with
  | false => exact ⟨_, _, rfl, by omega, g3, by simp only; omega, k4⟩
  | true =>
    simp only [cond_true]
    rw [pick_two (by omega)]
    have hv := pickv_lt (cd := cd) (p := q3 + 1) (m := 2) (by omega)
    simp only
    rw [geti_nat, List.getElem?_eq_getElem (by simp; omega)]
    exact ⟨_, _, rfl, by omega, g3, by simp only; omega, k4⟩
end Go.Proofs.Ytmnhnldnnniglaa
