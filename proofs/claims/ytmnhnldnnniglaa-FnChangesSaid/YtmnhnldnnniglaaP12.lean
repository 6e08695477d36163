/- Drawn names, steps and changes are small. -/
import Derived.Test.YtmnhnldnnniglaaP7
set_option linter.all false
namespace Go.Proofs.Ytmnhnldnnniglaa

theorem e_of {N : Nat} {cd : List UInt8} {p : Nat} {l : List Str} {B : Nat} (hp : p ≤ 1000000000) (hl : 0 < l.length) (h : ∀ x ∈ l, x.size ≤ B) : ∃ x, m_spec_l6Rd_of N cd p l = some (x, p + 1) ∧ x.size ≤ B := by
  unfold m_spec_l6Rd_of
  rw [pick_two hp]
  have hv := pickv_lt (cd := cd) (p := p) (m := ((l.length : Nat) : Int)) (by omega)
  simp only
  rw [geti_nat, List.getElem?_eq_getElem (by omega)]
  exact ⟨_, rfl, h _ (List.getElem_mem _)⟩

theorem e_l91Name {N : Nat} {cd : List UInt8} {p : Nat} (hp : p + 2 ≤ 1000000000) : ∃ x, m_spec_l91Name N cd p = some (x, p + 2) ∧ x.size ≤ 8 := by
  unfold m_spec_l91Name
  rw [pick_two (by omega)]
  simp only
  cases eqb ((pickv cd p 30 : Nat) : Int) 0 with
  | true =>
    obtain ⟨x, h1, h2⟩ := e_of (N := N) (cd := cd) (p := p + 1) (l := [(⟨#[]⟩ : Str), (⟨#[65]⟩ : Str), (⟨#[97, 98, 99, 100, 101, 102]⟩ : Str), (⟨#[97, 98, 99, 100, 101]⟩ : Str), (⟨#[97, 49]⟩ : Str)]) (B := 8) (by omega) (by simp) (by decide)
    simp only [cond_true]
    rw [h1]
    exact ⟨x, rfl, h2⟩
  | false =>
    obtain ⟨x, h1, h2⟩ := e_of (N := N) (cd := cd) (p := p + 1) (l := [(⟨#[97]⟩ : Str), (⟨#[98]⟩ : Str), (⟨#[99]⟩ : Str), (⟨#[100]⟩ : Str), (⟨#[101]⟩ : Str), (⟨#[102]⟩ : Str)]) (B := 8) (by omega) (by simp) (by decide)
    simp only [cond_false]
    rw [h1]
    exact ⟨x, rfl, h2⟩

theorem d_Step {N : Nat} {cd : List UInt8} {x : Str × Nat} : ∀ (m n p k : Nat) (a : List Str), 6 - k = m → k ≤ 6 → m < n → p + m ≤ 1000000000 → a.length ≤ 4 → (∀ y ∈ a, y.size ≤ 8) →
    ∃ p' a' k', m_spec_l91Step_L8 N cd x n p a k = some (.brk (p', a', k')) ∧ p' ≤ p + m ∧ a'.length ≤ 4 ∧ ∀ y ∈ a', y.size ≤ 8
  | 0, n, p, k, a, hm, hk, hn, hp, ha, hs => by
    obtain ⟨n, rfl⟩ : ∃ n', n = n' + 1 := ⟨n - 1, by omega⟩
    refine ⟨p, a, k, ?_, by omega, ha, hs⟩
    simp only [m_spec_l91Step_L8]
    rw [ltb_false.2 (by omega)]; rfl
  | m + 1, n, p, k, a, hm, hk, hn, hp, ha, hs => by
    obtain ⟨n, rfl⟩ : ∃ n', n = n' + 1 := ⟨n - 1, by omega⟩
    simp only [m_spec_l91Step_L8]
    rw [ltb_true.2 (by omega), cond_true, pick_two (by omega)]
    simp only
    obtain ⟨p', a', k', h1, h2, h3, h4⟩ := d_Step (N := N) (cd := cd) (x := x) m n (p + 1) (k + 1) a (by omega) (by omega) (by omega) (by omega) ha hs
    have more : ∃ p' a' k', m_spec_l91Step_L8 N cd x n (p + 1) a (k + 1) = some (.brk (p', a', k')) ∧ p' ≤ p + (m + 1) ∧ a'.length ≤ 4 ∧ ∀ y ∈ a', y.size ≤ 8 := ⟨p', a', k', h1, by omega, h3, h4⟩
    cases eqb ((pickv cd p 4 : Nat) : Int) 0 with
    | false => simp only [cond_false]; exact more
    | true =>
      simp only [cond_true]
      have hy : ∃ y : Str, ([(⟨#[97]⟩ : Str), (⟨#[98]⟩ : Str), (⟨#[99]⟩ : Str), (⟨#[100]⟩ : Str), (⟨#[101]⟩ : Str), (⟨#[102]⟩ : Str)] : List Str)[k]? = some y ∧ y.size ≤ 8 := by
        rcases (by omega : k = 0 ∨ k = 1 ∨ k = 2 ∨ k = 3 ∨ k = 4 ∨ k = 5) with rfl | rfl | rfl | rfl | rfl | rfl <;> exact ⟨_, rfl, by decide⟩
      obtain ⟨y, hy1, hy2⟩ := hy
      rw [hy1, Option.bind_some]
      cases seq y x.1 with
      | true => simp only [Bool.not_true, cond_false]; exact more
      | false =>
        simp only [Bool.not_false, cond_true]
        by_cases hlt : a.length < 4
        · rw [ltb_true.2 (by omega), cond_true, appd_ok (by simp; omega), Option.bind_some]
          obtain ⟨p', a', k', h1, h2, h3, h4⟩ := d_Step (N := N) (cd := cd) (x := x) m n (p + 1) (k + 1) (a ++ [y]) (by omega) (by omega) (by omega) (by omega) (by simp; omega) (fun z hz => by
            rcases List.mem_append.1 hz with h | h
            · exact hs z h
            · rw [List.mem_singleton.1 h]; exact hy2)
          exact ⟨p', a', k', h1, by omega, h3, h4⟩
        · rw [ltb_false.2 (by omega), cond_false]; exact more

theorem e_l91Step {N : Nat} {cd : List UInt8} {p : Nat} (hN : 10 < N) (hp : p + 20 ≤ 1000000000) : ∃ s p', m_spec_l91Step N cd p = some (s, p') ∧ p' ≤ p + 20 ∧ smallS s 8 := by
  unfold m_spec_l91Step
  obtain ⟨x, h1, h2⟩ := e_l91Name (N := N) (cd := cd) (p := p) (by omega)
  rw [h1, Option.bind_some]
  simp only
  rw [pick_two (by omega)]
  obtain ⟨q, a, k, g1, g2, g3, g4⟩ := d_Step (N := N) (cd := cd) (x := (x, p + 2)) 6 N (p + 2 + 1) 0 [] rfl (by omega) (by omega) (by omega) (by simp) (by simp)
  simp only
  rw [g1, Option.bind_some]
  simp only [Ex.go]
  rw [pick_two (by omega)]
  simp only
  cases eqb ((pickv cd q 30 : Nat) : Int) 0 with
  | true => exact ⟨_, _, rfl, by omega, h2, by simp only; decide, by simp only; decide⟩
  | false =>
    cases eqb ((pickv cd q 30 : Nat) : Int) 1 with
    | true => exact ⟨_, _, rfl, by omega, h2, by simp only; decide, by simp only; decide⟩
    | false =>
      cases eqb ((pickv cd q 30 : Nat) : Int) 2 with
      | true => exact ⟨_, _, rfl, by omega, h2, by simp, fun y hy => by rw [List.mem_singleton.1 hy]; exact h2⟩
      | false => exact ⟨_, _, rfl, by omega, h2, by simp only; omega, g4⟩

/-- A fine flow is small. -/
theorem asc_small {l : List Str} (h : ascOk l = true) : ∀ x ∈ l, x.size ≤ 8 := by
  intro x hx
  obtain ⟨i, hi, rfl⟩ := List.getElem_of_mem hx
  have := allIdx_true.1 h i hi
  unfold ascP at this
  rw [Bool.and_eq_true] at this
  have := (nameOk_size this.1).2
  omega
theorem step_small {s : Step} (h : stepOk s = true) : smallS s 8 := by
  have hn := (nameOk_size (stepOk_name h)).2
  unfold stepOk at h
  simp only [Bool.and_eq_true] at h
  have h4 := leb_true.1 h.2
  exact ⟨by omega, by omega, asc_small h.1.1.1⟩
theorem flow_small {f : Flow} (h : flowOk f = true) : smallF f 8 := by
  unfold flowOk at h
  simp only [Bool.and_eq_true] at h
  have h8 := leb_true.1 h.2.2.1.2
  refine ⟨by omega, fun s hs => ?_⟩
  obtain ⟨i, hi, rfl⟩ := List.getElem_of_mem hs
  have := allIdx_true.1 h.1 i hi
  unfold flowStep at this
  rw [Bool.and_eq_true] at this
  exact step_small this.1
theorem flow_some {f : Flow} (h : flowOk f = true) : 0 < f.steps.length := by
  unfold flowOk at h
  simp only [Bool.and_eq_true] at h
  have := leb_true.1 h.2.2.1.1
  omega
end Go.Proofs.Ytmnhnldnnniglaa
