/- Changes of flows: what is the same behind a change. -/
import Derived.Test.YtmnhnldnnniglaaGreatP40
set_option linter.all false
namespace Go.Proofs.YtmnhnldnnniglaaGreat

theorem with_asc {l : List Step} {s : Step} (h : ascK nameK l) : ascK nameK (withS l s) := putK_asc h
theorem with_other {l : List Step} {s x : Step} (hx : x ∈ l) (hn : x.name ≠ s.name) : x ∈ withS l s := with_mem.2 (.inr ⟨hx, hn⟩)
theorem with_hasO {l : List Step} {s : Step} {n : Str} (hn : n ≠ s.name) : hasS (withS l s) n = hasS l n := by
  rw [Bool.eq_iff_iff, has_iff, has_iff]
  constructor
  · rintro ⟨x, hx, rfl⟩
    rcases with_mem.1 hx with rfl | ⟨h1, _⟩
    · exact absurd rfl hn
    · exact ⟨x, h1, rfl⟩
  · rintro ⟨x, hx, rfl⟩
    exact ⟨x, with_other hx hn, rfl⟩
theorem drop_not {n : Str} {g : List Str} {s : Step} (h : hasB s.after n = false) : dropA n g s = s := by unfold dropA; rw [h]; rfl

theorem flow_have {f : Flow} (h : flowOk f = true) {s : Step} (hs : s ∈ f.steps) : stepOk s = true ∧ ∀ a ∈ s.after, hasS f.steps a = true := by
  unfold flowOk at h
  rw [Bool.and_eq_true] at h
  obtain ⟨i, hi, rfl⟩ := List.getElem_of_mem hs
  have := allIdx_true.1 h.1 i hi
  unfold flowStep at this
  simp only [Bool.and_eq_true] at this
  refine ⟨this.1, fun a ha => ?_⟩
  have h2 := this.2.2
  unfold haveB at h2
  rw [List.all_eq_true] at h2
  exact h2 a ha
theorem flow_at_ver {f : Flow} (h : flowOk f = true) {v : Int} (h1 : 1 ≤ v) (h2 : v ≤ 99) : flowOk ⟨v, f.steps⟩ = true := by
  unfold flowOk at *
  simp only [Bool.and_eq_true] at *
  refine ⟨h.1, ⟨leb_true.2 h1, leb_true.2 h2⟩, h.2.2⟩

theorem ord_iff {l : List Step} {d : List Str} : ordOk l d = true ↔ d.Nodup ∧ ∀ i (h : i < d.length), hasS l d[i] = true ∧ ∀ a ∈ (stepOf l d[i]).after, a ∈ d.take i := by
  have hb : ∀ i (h : i < d.length), badK l d i d[i] = false ↔ hasS l d[i] = true ∧ hasB (d.take i) d[i] = false ∧ ∀ a ∈ (stepOf l d[i]).after, a ∈ d.take i := by
    intro i h
    unfold badK
    simp only [Bool.or_eq_false_iff, Bool.not_eq_false']
    have e : hasB (l.map fun x => x.name) d[i] = hasS l d[i] := rfl
    rw [e]
    cases hh : hasS l d[i] with
    | false => simp
    | true =>
      obtain ⟨j, hj, e1⟩ := at_get hh
      unfold stepOf
      rw [e1, Int.toNat_natCast, List.getElem?_eq_getElem hj]
      simp only [Bool.not_eq_false', true_and]
      refine and_congr_right fun _ => ?_
      unfold haveB
      rw [List.all_eq_true]
      exact forall_congr' fun a => imp_congr_right fun _ => hasB_true
  rw [ord_at]
  constructor
  · intro h
    refine ⟨ord_nodup (ord_at.2 h), fun i hi => ?_⟩
    have := (hb i hi).1 (h i hi)
    exact ⟨this.1, this.2.2⟩
  · rintro ⟨hn, h⟩ i hi
    refine (hb i hi).2 ⟨(h i hi).1, ?_, (h i hi).2⟩
    cases hc : hasB (d.take i) d[i] with
    | false => rfl
    | true =>
      obtain ⟨j, hj, e⟩ := List.getElem_of_mem (hasB_true.1 hc)
      rw [List.getElem_take] at e
      have hj2 : j < i := by have := hj; rw [List.length_take] at this; omega
      have := nodup_ij hn (by omega) hi e
      omega
end Go.Proofs.YtmnhnldnnniglaaGreat
