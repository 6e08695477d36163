/- Drawn changes; what the laws of changes begin with. -/
import Derived.Test.YtmnhnldnnniglaaP42
import Derived.Test.YtmnhnldnnniglaaP19
set_option linter.all false
namespace Go.Proofs.Ytmnhnldnnniglaa

theorem e_l91Flow1 {N : Nat} {cd : List UInt8} {p : Nat} (hN : 10 < N) (hp : p + 200 ≤ 1000000000) : ∃ f p', m_spec_l91Flow N cd p = some (f, p') ∧ p' ≤ p + 200 ∧ smallF f 8 ∧ 0 < f.steps.length := by
  unfold m_spec_l91Flow
  rw [pick_two (by omega)]
  obtain ⟨q, l, k, h1, h2, h3, h4, h5⟩ := d_L12 (N := N) (cd := cd) hN 6 N (p + 1) 0 [] rfl (by omega) (by omega) (by omega) (by simp) (by omega) (by simp)
  simp only
  rw [h1, Option.bind_some]
  simp only [Ex.go]
  rw [pick_two (by omega)]
  simp only
  have small : ∀ s ∈ l, smallS s 8 := h5
  cases eqb ((pickv cd q 40 : Nat) : Int) 0 with
  | true =>
    simp only [cond_true]
    rw [pick_two (by omega)]
    simp only
    have hv := pickv_lt (cd := cd) (p := q + 1) (m := 3) (by omega)
    rw [geti_nat, List.getElem?_eq_getElem (by simp; omega), Option.bind_some]
    exact ⟨_, _, rfl, by omega, ⟨by simp only; omega, small⟩, h4⟩
  | false =>
    simp only [cond_false]
    cases eqb ((pickv cd q 40 : Nat) : Int) 1 with
    | true =>
      simp only [cond_true]
      rw [show ((l.length : Nat) : Int) - 1 = ((l.length - 1 : Nat) : Int) by omega, geti_nat, List.getElem?_eq_getElem (by omega), Option.bind_some, List.getElem?_eq_getElem h4, Option.bind_some]
      refine ⟨_, _, rfl, by omega, ⟨by simp; omega, fun s hs => ?_⟩, by simpa using h4⟩
      rcases List.mem_or_eq_of_mem_set hs with h | h
      · exact small s h
      · rw [h]
        exact ⟨(small _ (List.getElem_mem h4)).1, by simp, fun x hx => by rw [List.mem_singleton.1 hx]; exact (small _ (List.getElem_mem _)).1⟩
    | false =>
      simp only [cond_false]
      cases eqb ((pickv cd q 40 : Nat) : Int) 2 with
      | true =>
        simp only [cond_true]
        rw [List.getElem?_eq_getElem h4, Option.bind_some]
        refine ⟨_, _, rfl, by omega, ⟨by simp; omega, fun s hs => ?_⟩, by simpa using h4⟩
        rcases List.mem_or_eq_of_mem_set hs with h | h
        · exact small s h
        · rw [h]
          exact ⟨(small _ (List.getElem_mem h4)).1, by simp, fun x hx => by rw [List.mem_singleton.1 hx]; decide⟩
      | false => exact ⟨_, _, rfl, by omega, ⟨by simp only; omega, small⟩, h4⟩

theorem chF_small (f : Flow) (c : Change) : smallF (chF f c).1 8 := by
  unfold chF
  cases (flowOk f && stepOk c.step) with
  | false => exact ⟨by simp, by simp⟩
  | true =>
    simp only [cond_true]
    cases chSteps f.steps c with
    | none => exact ⟨by simp, by simp⟩
    | some st =>
      simp only
      cases h4 : flowOk ⟨f.ver + 1, st⟩ with
      | true => exact flow_small h4
      | false => exact ⟨by simp, by simp⟩

/-- What all laws of changes begin with. -/
theorem ch_begin {f : Flow} {c : Change} (hf : smallF f 8) (hc : smallS c.step 8) :
    m_impl_FlowChange 2000000 f c = some (chF f c) ∧ m_spec_FlowChange 2000000 f c = some (chF f c) ∧ m_laws_sameFlow 2000000 (chF f c).1 (chF f c).1 = some true := by
  refine ⟨e_impl_FlowChange hf hc (by omega) (by omega) (by omega), e_spec_FlowChange hf hc (by omega) (by omega) (by omega), ?_⟩
  rw [e_sameFlow (chF_small f c) (by omega), flowEq_true.2 rfl]

theorem chF_eq {f : Flow} {c : Change} {st : List Step} (h1 : flowOk f = true) (h2 : stepOk c.step = true) (h3 : chSteps f.steps c = some st) : chF f c = bif flowOk ⟨f.ver + 1, st⟩ then (⟨f.ver + 1, st⟩, true) else (⟨0, []⟩, false) := by
  unfold chF
  rw [h1, h2, h3]
  rfl
theorem stepOk_bare {n : Str} {b : Bool} (h : nameOk n = true) : stepOk ⟨n, [], b⟩ = true := by
  unfold stepOk
  rw [h]
  show (ascOk [] && true && !hasB [] n && leb ((0 : Nat) : Int) 4) = true
  rw [leb_true.2 (by omega)]
  rfl
theorem begin1 {u0 : List UInt8} {x : Option Bool} (h : x = some true) : (bif ltb 1048576 ((u0.length : Nat) : Int) then some true else x) = some true := by
  rw [h]
  cases ltb 1048576 ((u0.length : Nat) : Int) <;> rfl
end Go.Proofs.Ytmnhnldnnniglaa
