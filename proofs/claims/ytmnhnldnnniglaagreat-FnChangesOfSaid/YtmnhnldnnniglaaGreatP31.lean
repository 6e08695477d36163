/- Changes that lead to another flow: both sides reckon them so. -/
import Derived.Test.YtmnhnldnnniglaaGreatP30
set_option linter.all false
namespace Go.Proofs.YtmnhnldnnniglaaGreat

theorem flat_list {α γ β R : Type} (g : α → List γ) (F : Nat → List γ → Nat → Option (Ex β R)) (l : List α) (b : Nat → List γ → β) (N : Nat) (hN : l.length < N) (s0 : List γ) (C : Nat) (hC : ∀ x ∈ l, (g x).length ≤ C)
    (hn : ∀ n s k, k = l.length → F (n + 1) s k = some (.brk (b k s))) (hF : ∀ n s k (h : k < l.length), s.length ≤ s0.length + C * k → F (n + 1) s k = F n (s ++ g l[k]) (k + 1)) :
    F N s0 0 = some (.brk (b l.length (s0 ++ l.flatMap g))) := by
  have key : ∀ (t p : List α) (n : Nat) (s : List γ), l = p ++ t → t.length < n → s.length ≤ s0.length + C * p.length → F n s p.length = some (.brk (b l.length (s ++ t.flatMap g))) := by
    intro t
    induction t with
    | nil =>
      intro p n s hl hn' hs
      obtain ⟨n, rfl⟩ : ∃ n', n = n' + 1 := ⟨n - 1, by omega⟩
      simp only [List.append_nil] at hl
      rw [hn n s _ (by rw [hl]), hl]
      simp
    | cons x t ih =>
      intro p n s hl hn' hs
      simp only [List.length_cons] at hn'
      obtain ⟨n, rfl⟩ : ∃ n', n = n' + 1 := ⟨n - 1, by omega⟩
      have hk : p.length < l.length := by rw [hl]; simp
      have hx : l[p.length] = x := by simp [hl]
      have hc := hC x (by rw [hl]; simp)
      rw [hF n s p.length hk hs, hx, show p.length + 1 = (p ++ [x]).length by simp, ih (p ++ [x]) n _ (by simp [hl]) (by omega) (by
        simp only [List.length_append, List.length_singleton, Nat.mul_add, Nat.mul_one]
        omega)]
      simp
  have := key l [] N s0 rfl hN (by simp)
  simpa using this

theorem flat_filter {α γ : Type} (p : α → Bool) (h : α → γ) : ∀ l : List α, l.flatMap (fun x => bif p x then [h x] else []) = (l.filter p).map h
  | [] => rfl
  | x :: t => by
    rw [List.flatMap_cons, List.filter_cons, flat_filter p h t]
    cases p x <;> rfl

theorem get_stepOf {steps : List Step} {n : Str} (h : hasB (steps.map (·.name)) n = true) : geti steps (posOf (·.name) steps n) = some (stepOf steps n) := by
  obtain ⟨i, hi, e⟩ := at_get h
  unfold stepOf
  rw [e, geti_nat, Int.toNat_natCast, List.getElem?_eq_getElem hi]
theorem stepOf_mem {steps : List Step} {n : Str} (h : hasB (steps.map (·.name)) n = true) : stepOf steps n ∈ steps ∧ (stepOf steps n).name = n := by
  rcases posOf_cases (fun s : Step => s.name) steps n with ⟨h1, h2⟩ | ⟨i, hi, h1, h2, _⟩
  · obtain ⟨s, hs, e⟩ := List.mem_map.1 (hasB_true.1 h)
    obtain ⟨i, hi, rfl⟩ := List.getElem_of_mem hs
    exact absurd e (h2 i hi)
  · unfold stepOf
    rw [h1, Int.toNat_natCast, List.getElem?_eq_getElem hi]
    exact ⟨List.getElem_mem hi, h2⟩

theorem e_put {N : Nat} {k : Int} {s : Step} {out : List Change} (hs : s.after.length ≤ 1999999999) (ho : out.length ≤ 1999999999) : m_impl_ChangesOf_f2 N k s out = some (out ++ [⟨k, s⟩]) := by
  unfold m_impl_ChangesOf_f2 m_impl_Step_clone m_impl_cloneNames
  rw [appd_ok (by simp; omega)]
  simp only [Option.bind_some, List.nil_append]
  rw [appd_ok (by simp; omega)]
  rfl
theorem e_l2StepB {N : Nat} {s : Step} (hs : s.after.length ≤ 1999999999) : m_spec_l2Step N s = some s := by
  unfold m_spec_l2Step
  rw [appd_ok (by simp; omega)]
  rfl

theorem rev_loop {N : Nat} {l : List Str} (hl : l.length ≤ 4000000000) : ∀ (m n k : Nat) (s : List Str), l.length - 2 * k ≤ m → m < n → 2 * k ≤ l.length + 1 → s.length = l.length → (∀ p (hp : p < l.length) (hs : p < s.length), s[p] = if p < k ∨ l.length - 1 - k < p then l[l.length - 1 - p]'(by omega) else l[p]) →
    ∃ i j, m_slices_Reverse_string_L3 N n s ((k : Nat) : Int) (((l.length : Nat) : Int) - 1 - ((k : Nat) : Int)) = some (.brk (l.reverse, i, j)) := by
  intro m
  induction m with
  | zero =>
    intro n k s hm hn hk hs hp
    obtain ⟨n, rfl⟩ : ∃ n', n = n' + 1 := ⟨n - 1, by omega⟩
    simp only [m_slices_Reverse_string_L3]
    rw [ltb_false.2 (by omega), cond_false]
    have e : s = l.reverse := by
      refine List.ext_getElem (by simp [hs]) fun p h1 h2 => ?_
      rw [hp p (by omega) h1, List.getElem_reverse]
      split
      · rfl
      · congr 1
        omega
    rw [e]
    exact ⟨_, _, rfl⟩
  | succ m ih =>
    intro n k s hm hn hk hs hp
    obtain ⟨n, rfl⟩ : ∃ n', n = n' + 1 := ⟨n - 1, by omega⟩
    by_cases hlt : 2 * k + 1 < l.length
    · simp only [m_slices_Reverse_string_L3]
      rw [ltb_true.2 (by omega), cond_true]
      have ej : ((l.length : Nat) : Int) - 1 - ((k : Nat) : Int) = ((l.length - 1 - k : Nat) : Int) := by omega
      have g1 : geti s (((l.length - 1 - k : Nat) : Nat) : Int) = some (s[l.length - 1 - k]'(by omega)) := by rw [geti_nat, List.getElem?_eq_getElem]
      have g2 : geti s ((k : Nat) : Int) = some (s[k]'(by omega)) := by rw [geti_nat, List.getElem?_eq_getElem]
      rw [ej, g1, Option.bind_some, g2, Option.bind_some, geti_nat, List.getElem?_eq_getElem (by simp; omega), Option.bind_some, Int.toNat_natCast, Int.toNat_natCast, w64_id (by omega), w64_id (by omega), show ((k : Nat) : Int) + 1 = ((k + 1 : Nat) : Int) by omega,
        show (((l.length - 1 - k : Nat) : Nat) : Int) - 1 = ((l.length : Nat) : Int) - 1 - ((k + 1 : Nat) : Int) by omega]
      refine ih n (k + 1) _ (by omega) (by omega) (by omega) (by simp [hs]) (fun p hp1 hp2 => ?_)
      have hk1 := hp k (by omega) (by omega)
      have hk2 := hp (l.length - 1 - k) (by omega) (by omega)
      rw [if_neg (by omega)] at hk1
      rw [if_neg (by omega)] at hk2
      rw [List.getElem_set]
      by_cases q1 : l.length - 1 - k = p
      · rw [if_pos q1, if_pos (by omega), hk1]
        congr 1
        omega
      · rw [if_neg q1, List.getElem_set]
        by_cases q2 : k = p
        · rw [if_pos q2, if_pos (by omega), hk2]
          congr 1
          omega
        · rw [if_neg q2, hp p hp1 (by omega)]
          by_cases q3 : p < k ∨ l.length - 1 - k < p
          · rw [if_pos q3, if_pos (by omega)]
          · rw [if_neg q3, if_neg (by omega)]
    · simp only [m_slices_Reverse_string_L3]
      rw [ltb_false.2 (by omega), cond_false]
      have e : s = l.reverse := by
        refine List.ext_getElem (by simp [hs]) fun p h1 h2 => ?_
        rw [hp p (by omega) h1, List.getElem_reverse]
        split
        · rfl
        · congr 1
          omega
      rw [e]
      exact ⟨_, _, rfl⟩

theorem e_Reverse {N : Nat} {l : List Str} (hl : l.length ≤ 4000000000) (hN : l.length < N) : m_slices_Reverse_string N l = some ((), l.reverse) := by
  unfold m_slices_Reverse_string
  obtain ⟨i, j, h⟩ := rev_loop (N := N) hl l.length N 0 l (by omega) hN (by omega) rfl (fun p hp hs => by rw [if_neg (by omega)])
  have e : ((l.length : Nat) : Int) - 1 - ((0 : Nat) : Int) = ((l.length : Nat) : Int) - 1 := by omega
  rw [e, show ((0 : Nat) : Int) = 0 from rfl] at h
  rw [h]; rfl

theorem e_spec_l12Both {N : Nat} {f g : Flow} (hf : f.steps.length < N) (hg : g.steps.length < N) : m_spec_l12Both N f g = some (bothF f g) := by
  unfold m_spec_l12Both bothF
  rw [all_list (fun _ s => !hasB (g.steps.map (·.name)) s.name) true (fun n k => m_spec_l12Both_L5 N f g n k) f.steps (fun k => k) N hf ?_ ?_, allIdx_all]
  · have e : f.steps.all (fun s => !hasB (g.steps.map (·.name)) s.name) = !(f.steps.map (·.name)).any (hasB (g.steps.map (·.name))) := by rw [List.any_map, List.not_any_eq_all_not]; rfl
    rw [e]
    cases (f.steps.map (·.name)).any (hasB (g.steps.map (·.name))) <;> rfl
  · rintro n k rfl
    simp only [m_spec_l12Both_L5]
    rw [ltb_false.2 (by omega)]; rfl
  · intro n k h
    simp only [m_spec_l12Both_L5]
    rw [ltb_true.2 (by omega), cond_true, List.getElem?_eq_getElem h, Option.bind_some, e_l2At hg, Option.bind_some]
    have e : leb 0 (posOf (fun x : Step => x.name) g.steps f.steps[k].name) = hasB (g.steps.map (·.name)) f.steps[k].name := by
      have := hasB_map (f := fun x : Step => x.name) (l := g.steps) (s := f.steps[k].name)
      rw [leb_not, this, Bool.not_not]
    rw [e]
    cases hasB (g.steps.map (·.name)) f.steps[k].name <;> rfl
end Go.Proofs.YtmnhnldnnniglaaGreat
