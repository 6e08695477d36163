/- Changes of flows: what is the same behind a change. -/
import Derived.Test.YtmnhnldnnniglaaGreatP40
set_option linter.all false
namespace Go.Proofs.YtmnhnldnnniglaaGreat

/-! ## One more step, or another one in its place -/

theorem with_asc {l : List Step} {s : Step} (h : ascK nameK l) : ascK nameK (withS l s) := putK_asc h
theorem with_new {l : List Step} {s : Step} (h : hasS l s.name = false) : (withS l s).length = l.length + 1 := by
  have := (putK_perm (key := nameK) (l := l) (x := s) (fun y hy => has_false.1 h y hy)).length_eq
  unfold withS
  rw [← this, List.length_append]; rfl
theorem with_old {l : List Step} {s : Step} (ha : ascK nameK l) (h : hasS l s.name = true) : (withS l s).length = l.length := by
  have := congrArg List.length (putK_names (key := nameK) (x := s) ha (hasB_true.1 h))
  rw [List.length_map, List.length_map] at this
  exact this
theorem with_at {l : List Step} {s : Step} (ha : ascK nameK l) : stepOf (withS l s) s.name = s := stepOf_eq (with_asc ha) (with_mem.2 (.inl rfl)) rfl
theorem with_has {l : List Step} {s : Step} : hasS (withS l s) s.name = true := has_iff.2 ⟨s, with_mem.2 (.inl rfl), rfl⟩
theorem with_other {l : List Step} {s x : Step} (hx : x ∈ l) (hn : x.name ≠ s.name) : x ∈ withS l s := with_mem.2 (.inr ⟨hx, hn⟩)
theorem with_hasO {l : List Step} {s : Step} {n : Str} (hn : n ≠ s.name) : hasS (withS l s) n = hasS l n := by
  rw [Bool.eq_iff_iff, has_iff, has_iff]
  constructor
  · rintro ⟨x, hx, rfl⟩
    rcases with_mem.1 hx with rfl | ⟨h1, _⟩
    · exact absurd rfl hn
    · exact ⟨x, h1, rfl⟩
  · rintro ⟨x, hx, rfl⟩
    exact ⟨x, with_other hx hn, rfl⟩
theorem with_stepO {l : List Step} {s : Step} {n : Str} (ha : ascK nameK l) (hn : n ≠ s.name) (h : hasS l n = true) : stepOf (withS l s) n = stepOf l n :=
  stepOf_eq (with_asc ha) (with_other (stepOf_in h).1 (by rw [(stepOf_in h).2]; exact hn)) (stepOf_in h).2
theorem with_with {l : List Step} {s t : Step} (ha : ascK nameK l) (ht : t ∈ l) (e : s.name = t.name) : withS (withS l s) t = l := by
  refine ascK_unique (with_asc (with_asc ha)) ha fun x => ?_
  rw [with_mem, with_mem]
  constructor
  · rintro (rfl | ⟨rfl | ⟨h1, _⟩, h2⟩)
    · exact ht
    · exact absurd e h2
    · exact h1
  · intro hx
    by_cases h : x.name = t.name
    · exact .inl (ascK_inj ha hx ht h)
    · exact .inr ⟨.inr ⟨hx, by rw [e]; exact h⟩, h⟩

/-! ## One step less -/

theorem without_len {l : List Step} {n : Str} (ha : ascK nameK l) (h : hasS l n = true) : (withoutS l n).length + 1 = l.length := by
  have h1 := congrArg List.length (without_names (l := l) (n := n))
  rw [List.length_map] at h1
  rw [h1]
  have hn : ∀ m : List Str, ascK id m → n ∈ m → (m.filter fun x => !seq x n).length + 1 = m.length := by
    intro m
    induction m with
    | nil => intro _ hm; cases hm
    | cons y t ih =>
      intro hm hin
      have hp := List.pairwise_cons.1 hm
      rw [List.filter_cons]
      by_cases e : y = n
      · subst e
        rw [seq_self]
        have : t.filter (fun x => !seq x y) = t := List.filter_eq_self.2 fun z hz => by
          rw [seq_false.2 (fun e2 => by have := hp.1 z hz; rw [e2] at this; simp only [id, slt_irrefl] at this; cases this)]; rfl
        simp [this]
      · rcases List.mem_cons.1 hin with e2 | h2
        · exact absurd e2.symm e
        · rw [seq_false.2 e]
          have := ih hp.2 h2
          simp only [Bool.not_false, if_true, List.length_cons]
          omega
  have := hn (l.map fun s : Step => s.name) (ascK_names ha) (hasB_true.1 h)
  rw [this, List.length_map]
theorem without_has {l : List Step} {n : Str} : hasS (withoutS l n) n = false := has_false.2 fun s hs e => by
  obtain ⟨t, ht, h1, rfl⟩ := without_mem.1 hs
  rw [drop_name] at e
  exact h1 e
theorem without_hasO {l : List Step} {n m : Str} (hn : m ≠ n) : hasS (withoutS l n) m = hasS l m := by
  rw [Bool.eq_iff_iff, has_iff, has_iff]
  constructor
  · rintro ⟨x, hx, rfl⟩
    obtain ⟨t, ht, h1, rfl⟩ := without_mem.1 hx
    exact ⟨t, ht, (drop_name t).symm⟩
  · rintro ⟨x, hx, rfl⟩
    exact ⟨_, without_mem.2 ⟨x, hx, hn, rfl⟩, drop_name x⟩
theorem without_other {l : List Step} {n : Str} {x : Step} (hx : x ∈ l) (hn : x.name ≠ n) : dropA n (stepOf l n).after x ∈ withoutS l n := without_mem.2 ⟨x, hx, hn, rfl⟩
theorem without_stepO {l : List Step} {n m : Str} (ha : ascK nameK l) (hn : m ≠ n) (h : hasS l m = true) : stepOf (withoutS l n) m = dropA n (stepOf l n).after (stepOf l m) :=
  stepOf_eq (without_asc ha) (without_other (stepOf_in h).1 (by rw [(stepOf_in h).2]; exact hn)) (by rw [drop_name]; exact (stepOf_in h).2)
theorem drop_not {n : Str} {g : List Str} {s : Step} (h : hasB s.after n = false) : dropA n g s = s := by unfold dropA; rw [h]; rfl

theorem flow_have {f : Flow} (h : flowOk f = true) {s : Step} (hs : s ∈ f.steps) : stepOk s = true ∧ ∀ a ∈ s.after, hasS f.steps a = true := by
  unfold flowOk at h
  rw [Bool.and_eq_true] at h
  obtain ⟨i, hi, rfl⟩ := List.getElem_of_mem hs
  have := allIdx_true.1 h.1 i hi
  unfold flowStep at this
  simp only [Bool.and_eq_true] at this
  refine ⟨this.1, fun a ha => ?_⟩
  have h2 := this.2.2
  unfold haveB at h2
  rw [List.all_eq_true] at h2
  exact h2 a ha
theorem with_without {f : Flow} {s : Step} (h : flowOk f = true) (hn : hasS f.steps s.name = false) : withoutS (withS f.steps s) s.name = f.steps := by
  have ha := flow_ascK h
  refine ascK_unique (without_asc (with_asc ha)) ha fun x => ?_
  rw [without_mem]
  have key : ∀ y ∈ f.steps, hasB y.after s.name = false := fun y hy => by
    cases hc : hasB y.after s.name with
    | false => rfl
    | true => rw [(flow_have h hy).2 _ (hasB_true.1 hc)] at hn; cases hn
  constructor
  · rintro ⟨y, hy, h1, rfl⟩
    rcases with_mem.1 hy with rfl | ⟨h2, _⟩
    · exact absurd rfl h1
    · rw [drop_not (key y h2)]; exact h2
  · intro hx
    have hne : x.name ≠ s.name := has_false.1 hn x hx
    exact ⟨x, with_other hx hne, hne, (drop_not (key x hx)).symm⟩

theorem flow_at_ver {f : Flow} (h : flowOk f = true) {v : Int} (h1 : 1 ≤ v) (h2 : v ≤ 99) : flowOk ⟨v, f.steps⟩ = true := by
  unfold flowOk at *
  simp only [Bool.and_eq_true] at *
  refine ⟨h.1, ⟨leb_true.2 h1, leb_true.2 h2⟩, h.2.2⟩

/-! ## Who is done in a flow -/

theorem ord_iff {l : List Step} {d : List Str} : ordOk l d = true ↔ d.Nodup ∧ ∀ i (h : i < d.length), hasS l d[i] = true ∧ ∀ a ∈ (stepOf l d[i]).after, a ∈ d.take i := by
  have hb : ∀ i (h : i < d.length), badK l d i d[i] = false ↔ hasS l d[i] = true ∧ hasB (d.take i) d[i] = false ∧ ∀ a ∈ (stepOf l d[i]).after, a ∈ d.take i := by
    intro i h
    unfold badK
    simp only [Bool.or_eq_false_iff, Bool.not_eq_false']
    have e : hasB (l.map fun x => x.name) d[i] = hasS l d[i] := rfl
    rw [e]
    cases hh : hasS l d[i] with
    | false => simp
    | true =>
      obtain ⟨j, hj, e1⟩ := at_get hh
      unfold stepOf
      rw [e1, Int.toNat_natCast, List.getElem?_eq_getElem hj]
      simp only [Bool.not_eq_false', true_and]
      refine and_congr_right fun _ => ?_
      unfold haveB
      rw [List.all_eq_true]
      exact forall_congr' fun a => imp_congr_right fun _ => hasB_true
  rw [ord_at]
  constructor
  · intro h
    refine ⟨ord_nodup (ord_at.2 h), fun i hi => ?_⟩
    have := (hb i hi).1 (h i hi)
    exact ⟨this.1, this.2.2⟩
  · rintro ⟨hn, h⟩ i hi
    refine (hb i hi).2 ⟨(h i hi).1, ?_, (h i hi).2⟩
    cases hc : hasB (d.take i) d[i] with
    | false => rfl
    | true =>
      obtain ⟨j, hj, e⟩ := List.getElem_of_mem (hasB_true.1 hc)
      rw [List.getElem_take] at e
      have hj2 : j < i := by have := hj; rw [List.length_take] at this; omega
      have := nodup_ij hn (by omega) hi e
      omega
end Go.Proofs.YtmnhnldnnniglaaGreat
