/- Drawn names, steps and changes are small. -/
import Derived.Test.YtacecnffggffmaaDoorP7
set_option linter.all false
namespace Go.Proofs.YtacecnffggffmaaDoor

theorem e_of {N : Nat} {cd : List UInt8} {p : Nat} {l : List Str} {B : Nat} (hp : p ≤ 1000000000) (hl : 0 < l.length) (h : ∀ x ∈ l, x.size ≤ B) : ∃ x, m_spec_l6Rd_of N cd p l = some (x, p + 1) ∧ x.size ≤ B := by
  unfold m_spec_l6Rd_of
  rw [pick_two hp]
  have hv := pickv_lt (cd := cd) (p := p) (m := ((l.length : Nat) : Int)) (by omega)
  simp only
  rw [geti_nat, List.getElem?_eq_getElem (by omega)]
  exact ⟨_, rfl, h _ (List.getElem_mem _)⟩

/-- A fine flow is small. -/
theorem asc_small {l : List Str} (h : ascOk l = true) : ∀ x ∈ l, x.size ≤ 8 := by
  intro x hx
  obtain ⟨i, hi, rfl⟩ := List.getElem_of_mem hx
  have := allIdx_true.1 h i hi
  unfold ascP at this
  rw [Bool.and_eq_true] at this
  have := (nameOk_size this.1).2
  omega
theorem step_small {s : Step} (h : stepOk s = true) : smallS s 8 := by
  have hn := (nameOk_size (stepOk_name h)).2
  unfold stepOk at h
  simp only [Bool.and_eq_true] at h
  have h4 := leb_true.1 h.2
  exact ⟨by omega, by omega, asc_small h.1.1.1⟩
theorem flow_small {f : Flow} (h : flowOk f = true) : smallF f 8 := by
  unfold flowOk at h
  simp only [Bool.and_eq_true] at h
  have h8 := leb_true.1 h.2.2.1.2
  refine ⟨by omega, fun s hs => ?_⟩
  obtain ⟨i, hi, rfl⟩ := List.getElem_of_mem hs
  have := allIdx_true.1 h.1 i hi
  unfold flowStep at this
  rw [Bool.and_eq_true] at this
  exact step_small this.1
theorem flow_some {f : Flow} (h : flowOk f = true) : 0 < f.steps.length := by
  unfold flowOk at h
  simp only [Bool.and_eq_true] at h
  have := leb_true.1 h.2.2.1.1
  omega
end Go.Proofs.YtacecnffggffmaaDoor
