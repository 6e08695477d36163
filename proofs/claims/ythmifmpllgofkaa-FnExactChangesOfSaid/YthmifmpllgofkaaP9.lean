/- The laws: new steps are in one flow alone; what both flows have is the same. -/
import Derived.Test.YthmifmpllgofkaaP7
set_option linter.all false
namespace Go.Proofs.Ythmifmpllgofkaa

/-! ## Names that are deleted from a list -/

/-! ## What is new in a flow -/

def newS (f g : Flow) (s : Step) : Bool := !hasB (g.steps.map (·.name)) s.name
def newF (f g : Flow) : List Str := bif flowOk f && flowOk g then (f.steps.filter (newS f g)).map (·.name) else []

theorem newF_len (f g : Flow) : (newF f g).length ≤ f.steps.length := by
  unfold newF
  cases flowOk f && flowOk g with
  | false => simp
  | true => simp only [cond_true, List.length_map]; exact List.length_filter_le _ _

theorem newF_self (f : Flow) : newF f f = [] := by
  unfold newF
  have : f.steps.filter (newS f f) = [] := by
    rw [List.filter_eq_nil_iff]
    intro s hs
    unfold newS
    rw [hasB_true.2 (List.mem_map_of_mem hs)]
    simp
  rw [this]
  cases flowOk f && flowOk f <;> rfl

/-! ## What both have -/

theorem sub_len : ∀ {a b : List Str}, a.Nodup → (∀ x ∈ a, x ∈ b) → a.length ≤ b.length
  | [], _, _, _ => by simp
  | x :: a, b, hn, hs => by
    rw [List.nodup_cons] at hn
    have hx := hs x (by simp)
    have h1 := sub_len (a := a) (b := b.filter fun y => decide (y ≠ x)) hn.2 (fun y hy => List.mem_filter.2 ⟨hs y (by simp [hy]), by
      rw [decide_eq_true_eq]
      intro e
      exact hn.1 (e ▸ hy)⟩)
    have h2 : (b.filter fun y => decide (y ≠ x)).length < b.length := List.length_filter_lt_length_iff_exists.2 ⟨x, hx, by simp⟩
    simp only [List.length_cons]
    omega

theorem adj_pw {α : Type} {R : α → α → Prop} (ht : ∀ {a b c}, R a b → R b c → R a c) {l : List α} (h : ∀ i (hi : i < l.length) (h0 : 0 < i), R l[i-1] l[i]) : l.Pairwise R := by
  rw [List.pairwise_iff_getElem]
  intro i j
  induction j with
  | zero => intro _ _ h; omega
  | succ j ih =>
    intro hi hj hij
    have a := h (j + 1) hj (by omega)
    simp only [Nat.add_sub_cancel] at a
    rcases Nat.lt_or_ge i j with h1 | h1
    · exact ht (ih hi (by omega) h1) a
    · obtain rfl : i = j := by omega
      exact a

theorem flow_asc {f : Flow} (h : flowOk f = true) : f.steps.Pairwise fun a b => slt a.name b.name = true := by
  unfold flowOk at h
  rw [Bool.and_eq_true] at h
  refine adj_pw (R := fun a b : Step => slt a.name b.name = true) (fun h1 h2 => slt_trans h1 h2) fun i hi h0 => ?_
  have := allIdx_true.1 h.1 i hi
  unfold flowStep at this
  simp only [Bool.and_eq_true, Nat.zero_add, Bool.or_eq_true, decide_eq_true_eq] at this
  rcases this.2.1 with h1 | h1
  · omega
  · rw [List.getElem?_eq_getElem (by omega)] at h1
    exact h1
theorem flow_nodup {f : Flow} (h : flowOk f = true) : (f.steps.map (·.name)).Nodup := by
  rw [List.nodup_iff_pairwise_ne, List.pairwise_map]
  exact (flow_asc h).imp fun h => slt_ne h

theorem both_le {f g : Flow} (hf : flowOk f = true) : ((f.steps.filter fun s => hasB (g.steps.map (·.name)) s.name)).length ≤ ((g.steps.filter fun s => hasB (f.steps.map (·.name)) s.name)).length := by
  have h := sub_len (a := (f.steps.filter fun s => hasB (g.steps.map (·.name)) s.name).map (·.name)) (b := (g.steps.filter fun s => hasB (f.steps.map (·.name)) s.name).map (·.name))
    ((flow_nodup hf).sublist (List.filter_sublist.map _)) (fun x hx => by
      obtain ⟨s, hs, rfl⟩ := List.mem_map.1 hx
      rw [List.mem_filter] at hs
      obtain ⟨t, ht, e⟩ := List.mem_map.1 (hasB_true.1 hs.2)
      exact List.mem_map.2 ⟨t, List.mem_filter.2 ⟨ht, hasB_true.2 (e ▸ List.mem_map_of_mem hs.1)⟩, e⟩)
  simpa using h

theorem count_split {f g : Flow} : f.steps.length = (f.steps.filter fun s => hasB (g.steps.map (·.name)) s.name).length + (f.steps.filter (newS f g)).length := by
  have key : ∀ l : List Step, l.length = (l.filter fun s => hasB (g.steps.map (·.name)) s.name).length + (l.filter (newS f g)).length := by
    intro l
    induction l with
    | nil => rfl
    | cons s l ih =>
      have e : newS f g s = !hasB (g.steps.map (·.name)) s.name := rfl
      simp only [List.filter_cons, e, List.length_cons]
      cases hasB (g.steps.map (·.name)) s.name <;> simp <;> omega
  exact key _

end Go.Proofs.Ythmifmpllgofkaa
