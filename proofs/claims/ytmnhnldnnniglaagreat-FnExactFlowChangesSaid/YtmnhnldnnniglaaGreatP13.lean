/- A change of a small flow is made, and what is handed back is fine. -/
import Derived.Test.YtmnhnldnnniglaaGreatP12
set_option linter.all false
namespace Go.Proofs.YtmnhnldnnniglaaGreat

theorem e_l2Step {N : Nat} {s : Step} (h : s.after.length ≤ 4000000000) : m_spec_l2Step N s = some s := by
  unfold m_spec_l2Step
  rw [appd_ok (by simp; omega)]; rfl

/-- What is in a list of short texts with one more. -/
theorem d_Put {N B : Nat} {l : List Str} {x : Str} (hB : B ≤ 1000000) (hx : x.size ≤ B) (hs : ∀ y ∈ l, y.size ≤ B) (hl : l.length ≤ 1000000) : ∀ (m n k : Nat) (a : List Str) (b : Bool), l.length - k = m → k ≤ l.length → m < n → a.length ≤ k + (bif b then 1 else 0) → (∀ y ∈ a, y.size ≤ B) →
    ∃ a' b' k', m_spec_l1Put_L6 N l x n a b k = some (.brk (a', b', k')) ∧ a'.length ≤ l.length + (bif b' then 1 else 0) ∧ ∀ y ∈ a', y.size ≤ B
  | 0, n, k, a, b, hm, hk, hn, ha, hsa => by
    obtain ⟨n, rfl⟩ : ∃ n', n = n' + 1 := ⟨n - 1, by omega⟩
    refine ⟨a, b, k, ?_, by omega, hsa⟩
    simp only [m_spec_l1Put_L6]
    rw [ltb_false.2 (by omega)]; rfl
  | m + 1, n, k, a, b, hm, hk, hn, ha, hsa => by
    obtain ⟨n, rfl⟩ : ∃ n', n = n' + 1 := ⟨n - 1, by omega⟩
    have hkl : k < l.length := by omega
    simp only [m_spec_l1Put_L6]
    rw [ltb_true.2 (by omega), cond_true, List.getElem?_eq_getElem hkl]
    simp only [Option.bind_some]
    obtain ⟨a1, b1, h1, h2, h3⟩ : ∃ a1 b1, ((bif !b then (bif !(slt l[k] x) then (appd a ([x] : List Str)).bind fun l28 => some ((a ++ ([x] : List Str)), true) else some (a, b)) else some (a, b)) : Option ((List Str) × Bool)) = some (a1, b1) ∧ a1.length ≤ k + (bif b1 then 1 else 0) ∧ ∀ y ∈ a1, y.size ≤ B := by
      cases b with
      | true => exact ⟨a, true, rfl, ha, hsa⟩
      | false =>
        cases slt l[k] x with
        | true => exact ⟨a, false, rfl, ha, hsa⟩
        | false =>
          simp only [cond_false] at ha
          simp only [Bool.not_false, cond_true]
          rw [appd_ok (by simp; omega)]
          exact ⟨_, true, rfl, by simp; omega, fun y hy => by
            rcases List.mem_append.1 hy with h | h
            · exact hsa y h
            · rw [List.mem_singleton.1 h]; exact hx⟩
    rw [h1, Option.bind_some]
    simp only
    have hb : (bif b1 then 1 else 0) ≤ 1 := by cases b1 <;> simp
    cases seq l[k] x with
    | true => simp only [Bool.not_true, cond_false]; exact d_Put hB hx hs hl m n (k + 1) a1 b1 (by omega) (by omega) (by omega) (by omega) h3
    | false =>
      simp only [Bool.not_false, cond_true]
      rw [appd_ok (by simp; omega), Option.bind_some]
      exact d_Put hB hx hs hl m n (k + 1) (a1 ++ [l[k]]) b1 (by omega) (by omega) (by omega) (by simp; omega) (fun y hy => by
        rcases List.mem_append.1 hy with h | h
        · exact h3 y h
        · rw [List.mem_singleton.1 h]; exact hs _ (List.getElem_mem hkl))

theorem e_l1Put {N B : Nat} {l : List Str} {x : Str} (hB : B ≤ 1000000) (hx : x.size ≤ B) (hs : ∀ y ∈ l, y.size ≤ B) (hl : l.length ≤ 1000000) (hN : l.length < N) : ∃ a, m_spec_l1Put N l x = some a ∧ a.length ≤ l.length + 1 ∧ ∀ y ∈ a, y.size ≤ B := by
  unfold m_spec_l1Put
  obtain ⟨a, b, k, h1, h2, h3⟩ := d_Put (N := N) hB hx hs hl l.length N 0 [] false (by omega) (by omega) hN (by simp) (by simp)
  rw [h1, Option.bind_some]
  simp only [Ex.go]
  cases b with
  | true => exact ⟨a, rfl, h2, h3⟩
  | false =>
    simp only [cond_false] at h2
    simp only [Bool.not_false, cond_true]
    rw [appd_ok (by simp; omega)]
    exact ⟨_, rfl, by simp; omega, fun y hy => by
      rcases List.mem_append.1 hy with h | h
      · exact h3 y h
      · rw [List.mem_singleton.1 h]; exact hx⟩

theorem d_With {N B : Nat} {l : List Step} {x : Step} (hB : B ≤ 1000000) (hx : smallS x B) (hs : ∀ y ∈ l, smallS y B) (hl : l.length ≤ 1000000) : ∀ (m n k : Nat) (a : List Step) (b : Bool), l.length - k = m → k ≤ l.length → m < n → a.length ≤ k + (bif b then 1 else 0) → (∀ y ∈ a, smallS y B) →
    ∃ a' b' k', m_spec_l12With_L11 N l x n a b k = some (.brk (a', b', k')) ∧ a'.length ≤ l.length + (bif b' then 1 else 0) ∧ ∀ y ∈ a', smallS y B
  | 0, n, k, a, b, hm, hk, hn, ha, hsa => by
    obtain ⟨n, rfl⟩ : ∃ n', n = n' + 1 := ⟨n - 1, by omega⟩
    refine ⟨a, b, k, ?_, by omega, hsa⟩
    simp only [m_spec_l12With_L11]
    rw [ltb_false.2 (by omega)]; rfl
  | m + 1, n, k, a, b, hm, hk, hn, ha, hsa => by
    obtain ⟨n, rfl⟩ : ∃ n', n = n' + 1 := ⟨n - 1, by omega⟩
    have hkl : k < l.length := by omega
    have hx4 := hx.2.1
    have hk4 := (hs _ (List.getElem_mem hkl)).2.1
    simp only [m_spec_l12With_L11]
    rw [ltb_true.2 (by omega), cond_true, List.getElem?_eq_getElem hkl]
    simp only [Option.bind_some]
    obtain ⟨a1, b1, h1, h2, h3⟩ : ∃ a1 b1, ((bif !b then (bif !(slt l[k].name x.name) then (m_spec_l2Step N x).bind fun x29 => (appd a [x29]).bind fun l31 => some ((a ++ [x29]), true) else some (a, b)) else some (a, b)) : Option ((List Step) × Bool)) = some (a1, b1) ∧ a1.length ≤ k + (bif b1 then 1 else 0) ∧ ∀ y ∈ a1, smallS y B := by
      cases b with
      | true => exact ⟨a, true, rfl, ha, hsa⟩
      | false =>
        cases slt l[k].name x.name with
        | true => exact ⟨a, false, rfl, ha, hsa⟩
        | false =>
          simp only [cond_false] at ha
          simp only [Bool.not_false, cond_true]
          rw [e_l2Step (by omega), Option.bind_some, appd_ok (by simp; omega)]
          exact ⟨_, true, rfl, by simp; omega, fun y hy => by
            rcases List.mem_append.1 hy with h | h
            · exact hsa y h
            · rw [List.mem_singleton.1 h]; exact hx⟩
    rw [h1, Option.bind_some]
    simp only
    have hb : (bif b1 then 1 else 0) ≤ 1 := by cases b1 <;> simp
    cases seq l[k].name x.name with
    | true => simp only [Bool.not_true, cond_false]; exact d_With hB hx hs hl m n (k + 1) a1 b1 (by omega) (by omega) (by omega) (by omega) h3
    | false =>
      simp only [Bool.not_false, cond_true]
      rw [e_l2Step (by omega), Option.bind_some, appd_ok (by simp; omega), Option.bind_some]
      exact d_With hB hx hs hl m n (k + 1) (a1 ++ [l[k]]) b1 (by omega) (by omega) (by omega) (by simp; omega) (fun y hy => by
        rcases List.mem_append.1 hy with h | h
        · exact h3 y h
        · rw [List.mem_singleton.1 h]; exact hs _ (List.getElem_mem hkl))

theorem e_l12With {N B : Nat} {l : List Step} {x : Step} (hB : B ≤ 1000000) (hx : smallS x B) (hs : ∀ y ∈ l, smallS y B) (hl : l.length ≤ 1000000) (hN : l.length < N) : ∃ a, m_spec_l12With N l x = some a ∧ a.length ≤ l.length + 1 ∧ ∀ y ∈ a, smallS y B := by
  unfold m_spec_l12With
  have hx4 := hx.2.1
  obtain ⟨a, b, k, h1, h2, h3⟩ := d_With (N := N) hB hx hs hl l.length N 0 [] false (by omega) (by omega) hN (by simp) (by simp)
  rw [h1, Option.bind_some]
  simp only [Ex.go]
  cases b with
  | true => exact ⟨a, rfl, h2, h3⟩
  | false =>
    simp only [cond_false] at h2
    simp only [Bool.not_false, cond_true]
    rw [e_l2Step (by omega), Option.bind_some, appd_ok (by simp; omega)]
    exact ⟨_, rfl, by simp; omega, fun y hy => by
      rcases List.mem_append.1 hy with h | h
      · exact h3 y h
      · rw [List.mem_singleton.1 h]; exact hx⟩
end Go.Proofs.YtmnhnldnnniglaaGreat
