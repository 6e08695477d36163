/- Steps without one; a change is made. -/
import Derived.Test.YtmnhnldnnniglaaGreatP13
set_option linter.all false
namespace Go.Proofs.YtmnhnldnnniglaaGreat

theorem d_16 {N : Nat} {u : Str} {x : Step} (hx : smallS x 8) (hN : 100 < N) : ∀ (m n k : Nat) (a : List Str), x.after.length - k = m → k ≤ x.after.length → m < n → a.length ≤ k → (∀ y ∈ a, y.size ≤ 8) →
    ∃ a' k', m_spec_l12Without_L16 N u x n a k = some (.brk (a', k')) ∧ a'.length ≤ 8 ∧ ∀ y ∈ a', y.size ≤ 8
  | 0, n, k, a, hm, hk, hn, ha, hs => by
    obtain ⟨n, rfl⟩ : ∃ n', n = n' + 1 := ⟨n - 1, by omega⟩
    have := hx.2.1
    refine ⟨a, k, ?_, by omega, hs⟩
    simp only [m_spec_l12Without_L16]
    rw [ltb_false.2 (by omega)]; rfl
  | m + 1, n, k, a, hm, hk, hn, ha, hs => by
    obtain ⟨n, rfl⟩ : ∃ n', n = n' + 1 := ⟨n - 1, by omega⟩
    have hkl : k < x.after.length := by omega
    have h8 := hx.2.1
    simp only [m_spec_l12Without_L16]
    rw [ltb_true.2 (by omega), cond_true, List.getElem?_eq_getElem hkl, Option.bind_some]
    cases seq x.after[k] u with
    | true => simp only [Bool.not_true, cond_false]; exact d_16 hx hN m n (k + 1) a (by omega) (by omega) (by omega) (by omega) hs
    | false =>
      simp only [Bool.not_false, cond_true]
      obtain ⟨a1, h1, h2, h3⟩ := e_l1Put (N := N) (B := 8) (x := x.after[k]) (l := a) (by omega) (hx.2.2 _ (List.getElem_mem hkl)) hs (by omega) (by omega)
      rw [h1, Option.bind_some]
      exact d_16 hx hN m n (k + 1) a1 (by omega) (by omega) (by omega) (by omega) h3

theorem d_23 {N : Nat} {x : Step} (hx : smallS x 8) (hN : 100 < N) : ∀ (m n k : Nat) (a : List Str), x.after.length - k = m → k ≤ x.after.length → m < n → a.length ≤ k + 8 → (∀ y ∈ a, y.size ≤ 8) →
    ∃ a' k', m_spec_l12Without_L23 N x n a k = some (.brk (a', k')) ∧ a'.length ≤ 16 ∧ ∀ y ∈ a', y.size ≤ 8
  | 0, n, k, a, hm, hk, hn, ha, hs => by
    obtain ⟨n, rfl⟩ : ∃ n', n = n' + 1 := ⟨n - 1, by omega⟩
    have := hx.2.1
    refine ⟨a, k, ?_, by omega, hs⟩
    simp only [m_spec_l12Without_L23]
    rw [ltb_false.2 (by omega)]; rfl
  | m + 1, n, k, a, hm, hk, hn, ha, hs => by
    obtain ⟨n, rfl⟩ : ∃ n', n = n' + 1 := ⟨n - 1, by omega⟩
    have hkl : k < x.after.length := by omega
    have h8 := hx.2.1
    simp only [m_spec_l12Without_L23]
    rw [ltb_true.2 (by omega), cond_true, List.getElem?_eq_getElem hkl, Option.bind_some]
    obtain ⟨a1, h1, h2, h3⟩ := e_l1Put (N := N) (B := 8) (x := x.after[k]) (l := a) (by omega) (hx.2.2 _ (List.getElem_mem hkl)) hs (by omega) (by omega)
    rw [h1, Option.bind_some]
    exact d_23 hx hN m n (k + 1) a1 (by omega) (by omega) (by omega) (by omega) h3

theorem smallS.up {s : Step} {B C : Nat} (h : smallS s B) (hBC : B ≤ C) : smallS s C := ⟨Nat.le_trans h.1 hBC, Nat.le_trans h.2.1 hBC, fun x hx => Nat.le_trans (h.2.2 x hx) hBC⟩

theorem d_Without {N : Nat} {l : List Step} {u : Str} {y : Step} (hl : l.length ≤ 8) (hs : ∀ s ∈ l, smallS s 8) (hy : smallS y 8) (hN : 100 < N) : ∀ (m n k : Nat) (a : List Step), l.length - k = m → k ≤ l.length → m < n → a.length ≤ k → (∀ s ∈ a, smallS s 20) →
    ∃ a' k', m_spec_l12Without_L6 N l u y n a k = some (.brk (a', k')) ∧ a'.length ≤ 8 ∧ ∀ s ∈ a', smallS s 20
  | 0, n, k, a, hm, hk, hn, ha, hsa => by
    obtain ⟨n, rfl⟩ : ∃ n', n = n' + 1 := ⟨n - 1, by omega⟩
    refine ⟨a, k, ?_, by omega, hsa⟩
    simp only [m_spec_l12Without_L6]
    rw [ltb_false.2 (by omega)]; rfl
  | m + 1, n, k, a, hm, hk, hn, ha, hsa => by
    obtain ⟨n, rfl⟩ : ∃ n', n = n' + 1 := ⟨n - 1, by omega⟩
    have hkl : k < l.length := by omega
    have hk8 := hs _ (List.getElem_mem hkl)
    have hk4 := hk8.2.1
    simp only [m_spec_l12Without_L6]
    rw [ltb_true.2 (by omega), cond_true, List.getElem?_eq_getElem hkl, Option.bind_some, e_l2Step (by omega), Option.bind_some, e_l1At (by omega), Option.bind_some]
    have add : ∀ z : Step, smallS z 20 → ∀ s ∈ a ++ [z], smallS s 20 := fun z hz s h => by
      rcases List.mem_append.1 h with h | h
      · exact hsa s h
      · rw [List.mem_singleton.1 h]; exact hz
    cases leb 0 (posOf id l[k].after u) with
    | true =>
      simp only [cond_true]
      obtain ⟨a1, k1, g1, g2, g3⟩ := d_16 (N := N) (u := u) hk8 hN l[k].after.length N 0 [] (by omega) (by omega) (by omega) (by simp) (by simp)
      rw [g1, Option.bind_some]
      simp only [Ex.go]
      obtain ⟨a2, k2, g4, g5, g6⟩ := d_23 (N := N) hy hN y.after.length N 0 a1 (by omega) (by omega) (by have := hy.2.1; omega) (by omega) g3
      rw [g4, Option.bind_some]
      simp only [Ex.go]
      cases seq l[k].name u with
      | true => simp only [Bool.not_true, cond_false]; exact d_Without hl hs hy hN m n (k + 1) a (by omega) (by omega) (by omega) (by omega) hsa
      | false =>
        simp only [Bool.not_false, cond_true]
        rw [appd_ok (by simp; omega), Option.bind_some]
        have h1 := hk8.1
        exact d_Without hl hs hy hN m n (k + 1) _ (by omega) (by omega) (by omega) (by simp; omega) (add _ ⟨by simp only; omega, by simp only; omega, fun z hz => by have := g6 z hz; omega⟩)
    | false =>
      simp only [cond_false]
      cases seq l[k].name u with
      | true => simp only [Bool.not_true, cond_false]; exact d_Without hl hs hy hN m n (k + 1) a (by omega) (by omega) (by omega) (by omega) hsa
      | false =>
        simp only [Bool.not_false, cond_true]
        rw [appd_ok (by simp; omega), Option.bind_some]
        exact d_Without hl hs hy hN m n (k + 1) _ (by omega) (by omega) (by omega) (by simp; omega) (add _ (hk8.up (by omega)))

theorem e_l12Without {N : Nat} {l : List Step} {i : Nat} {u : Str} (hl : l.length ≤ 8) (hs : ∀ s ∈ l, smallS s 8) (hN : 100 < N) (h : 0 ≤ posOf (·.name) l u) : ∃ a, m_spec_l12Without N l u = some a ∧ a.length ≤ 8 ∧ ∀ s ∈ a, smallS s 20 := by
  unfold m_spec_l12Without
  rw [e_l2At (by omega), Option.bind_some]
  rcases posOf_cases (fun s : Step => s.name) l u with h1 | ⟨i, hi, h1, _⟩
  · omega
  · rw [h1, geti_nat, List.getElem?_eq_getElem hi, Option.bind_some]
    obtain ⟨a, k, g1, g2, g3⟩ := d_Without (N := N) (u := u) hl hs (hs _ (List.getElem_mem hi)) hN l.length N 0 [] (by omega) (by omega) (by omega) (by simp) (by simp)
    rw [g1]
    exact ⟨a, rfl, g2, g3⟩

theorem e_l12Steps {N : Nat} {l : List Step} {c : Change} (hl : l.length ≤ 8) (hs : ∀ s ∈ l, smallS s 8) (hc : smallS c.step 8) (hN : 100 < N) : ∃ a, m_spec_l12Steps N l c = some a ∧ a.1.length ≤ 20 ∧ ∀ s ∈ a.1, smallS s 20 := by
  unfold m_spec_l12Steps
  rw [e_l2At (by omega), Option.bind_some]
  have mk : ∀ x : Step, smallS x 8 → ∃ a, m_spec_l12With N l x = some a ∧ a.length ≤ 20 ∧ ∀ s ∈ a, smallS s 20 := fun x hx => by
    obtain ⟨a, h1, h2, h3⟩ := e_l12With (N := N) (B := 8) (x := x) (l := l) (by omega) hx hs (by omega) (by omega)
    exact ⟨a, h1, by omega, fun s h => (h3 s h).up (by omega)⟩
  have get : 0 ≤ posOf (·.name) l c.step.name → ∃ y, geti l (posOf (·.name) l c.step.name) = some y ∧ smallS y 8 := fun h => by
    rcases posOf_cases (fun s : Step => s.name) l c.step.name with h1 | ⟨i, hi, h1, _⟩
    · omega
    · rw [h1, geti_nat, List.getElem?_eq_getElem hi]; exact ⟨_, rfl, hs _ (List.getElem_mem hi)⟩
  have part : ∀ (k : Int) (q : Bool), ((bif eqb c.kind k then some q else some false) : Option Bool) = some (eqb c.kind k && q) := fun k q => by cases eqb c.kind k <;> rfl
  rw [part, Option.bind_some]
  cases (eqb c.kind 1 && ltb (posOf (·.name) l c.step.name) 0) with
  | true =>
    obtain ⟨a, h1, h2, h3⟩ := mk c.step hc
    simp only [cond_true]
    rw [h1]
    exact ⟨_, rfl, h2, h3⟩
  | false =>
    simp only [cond_false]
    rw [part, Option.bind_some]
    cases h2 : (eqb c.kind 2 && leb 0 (posOf (·.name) l c.step.name)) with
    | true =>
      rw [Bool.and_eq_true, leb_true] at h2
      obtain ⟨a, h1, h3, h4⟩ := e_l12Without (N := N) (i := 0) hl hs hN h2.2
      simp only [cond_true]
      rw [h1]
      exact ⟨_, rfl, by simp only; omega, h4⟩
    | false =>
      simp only [cond_false]
      rw [part, Option.bind_some]
      cases h3 : (eqb c.kind 3 && leb 0 (posOf (·.name) l c.step.name)) with
      | true =>
        rw [Bool.and_eq_true, leb_true] at h3
        obtain ⟨y, g1, g2⟩ := get h3.2
        obtain ⟨a, k1, k2, k3⟩ := mk ⟨c.step.name, c.step.after, y.undo⟩ hc
        simp only [cond_true]
        rw [g1, Option.bind_some, k1]
        exact ⟨_, rfl, k2, k3⟩
      | false =>
        simp only [cond_false]
        rw [part, Option.bind_some]
        cases h4 : (eqb c.kind 4 && leb 0 (posOf (·.name) l c.step.name)) with
        | true =>
          rw [Bool.and_eq_true, leb_true] at h4
          obtain ⟨y, g1, g2⟩ := get h4.2
          obtain ⟨a, k1, k2, k3⟩ := mk ⟨c.step.name, y.after, c.step.undo⟩ ⟨hc.1, g2.2⟩
          simp only [cond_true]
          rw [g1, Option.bind_some, k1]
          exact ⟨_, rfl, k2, k3⟩
        | false => exact ⟨_, rfl, by simp, by simp⟩

/-- A change of a small flow is made; what is handed back with true is fine. -/
theorem e_FlowChange_ok {N : Nat} {f : Flow} {c : Change} (hf : smallF f 8) (hc : smallS c.step 8) (hN : 100 < N) : ∃ r, m_spec_FlowChange N f c = some r ∧ (r.2 = true → flowOk r.1 = true) := by
  unfold m_spec_FlowChange
  rw [e_spec_FlowValid hf (by omega) (by omega), Option.bind_some]
  cases flowOk f with
  | false => exact ⟨_, rfl, fun h => by cases h⟩
  | true =>
    simp only [Bool.not_true, cond_false]
    rw [e_spec_StepValid hc (by omega) (by omega), Option.bind_some]
    cases stepOk c.step with
    | false => exact ⟨_, rfl, fun h => by cases h⟩
    | true =>
      simp only [Bool.not_true, cond_false]
      obtain ⟨a, h1, h2, h3⟩ := e_l12Steps (N := N) hf.1 hf.2 hc hN
      rw [h1, Option.bind_some]
      cases a.2 with
      | false => exact ⟨_, rfl, fun h => by cases h⟩
      | true =>
        simp only [Bool.not_true, cond_false]
        have hg : smallF ⟨w64 (f.ver + 1), a.1⟩ 20 := ⟨h2, h3⟩
        rw [e_spec_FlowValid hg (by omega) (by omega), Option.bind_some]
        cases ho : flowOk ⟨w64 (f.ver + 1), a.1⟩ with
        | false => exact ⟨_, rfl, fun h => by cases h⟩
        | true => exact ⟨_, rfl, fun _ => ho⟩
end Go.Proofs.YtmnhnldnnniglaaGreat
