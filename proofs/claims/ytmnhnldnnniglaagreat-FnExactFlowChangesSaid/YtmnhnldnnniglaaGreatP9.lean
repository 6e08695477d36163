/- The laws: new steps are in one flow alone; what both flows have is the same. -/
import Derived.Test.YtmnhnldnnniglaaGreatP7
set_option linter.all false
namespace Go.Proofs.YtmnhnldnnniglaaGreat

/-! ## Names that are deleted from a list -/

theorem del_loop {N : Nat} {l : List Str} {del : Str → Option Bool} (p : Str → Bool) (hdel : ∀ x ∈ l, del x = some (p x)) (hl : l.length ≤ 4000000000) :
    ∀ (m n i j : Nat) (s : List Str), l.length - j = m → m < n → j ≤ l.length → i < j → s.length = l.length → s.take i = (l.take j).filter (fun x => !p x) → s.drop j = l.drop j →
    ∃ (s1 : List Str) (i1 : Nat) (j1 : Int), m_slices_DeleteFunc_string_L8 N l del n s (i : Int) (j : Int) = some (.brk (s1, (i1 : Int), j1)) ∧ s1.length = l.length ∧ i1 ≤ l.length ∧ s1.take i1 = l.filter (fun x => !p x)
  | 0, n, i, j, s, hm, hn, hj, hi, hs, ht, hd => by
    obtain ⟨n, rfl⟩ : ∃ n', n = n' + 1 := ⟨n - 1, by omega⟩
    simp only [m_slices_DeleteFunc_string_L8]
    rw [ltb_false.2 (by omega), cond_false]
    refine ⟨s, i, j, rfl, hs, by omega, ?_⟩
    rw [ht, List.take_of_length_le (by omega)]
  | m + 1, n, i, j, s, hm, hn, hj, hi, hs, ht, hd => by
    obtain ⟨n, rfl⟩ : ∃ n', n = n' + 1 := ⟨n - 1, by omega⟩
    have hjl : j < l.length := by omega
    have hjs : j < s.length := by omega
    simp only [m_slices_DeleteFunc_string_L8]
    rw [ltb_true.2 (by omega), cond_true, geti_nat, List.getElem?_eq_getElem hjs, Option.bind_some]
    have e : s[j] = l[j] ∧ s.drop (j + 1) = l.drop (j + 1) := by
      have h1 := List.drop_eq_getElem_cons hjs
      have h2 := List.drop_eq_getElem_cons hjl
      rw [hd, h2] at h1
      injection h1 with a b
      exact ⟨a.symm, b.symm⟩
    have hw : w64 ((j : Int) + 1) = ((j + 1 : Nat) : Int) := by rw [w64_id (by omega)]; rfl
    have hwi : w64 ((i : Int) + 1) = ((i + 1 : Nat) : Int) := by rw [w64_id (by omega)]; rfl
    rw [e.1, hdel _ (List.getElem_mem hjl), Option.bind_some, hw, hwi]
    cases hp : p l[j] with
    | true =>
      simp only [Bool.not_true, cond_false]
      refine del_loop p hdel hl m n i (j + 1) s (by omega) (by omega) (by omega) (by omega) hs ?_ e.2
      rw [ht, List.take_succ_eq_append_getElem hjl, List.filter_append]
      simp [hp]
    | false =>
      simp only [Bool.not_false, cond_true]
      rw [geti_nat, List.getElem?_eq_getElem (by omega), Option.bind_some, Int.toNat_natCast]
      refine del_loop p hdel hl m n (i + 1) (j + 1) (s.set i l[j]) (by omega) (by omega) (by omega) (by omega) (by simpa using hs) ?_ ?_
      · rw [List.take_succ_eq_append_getElem hjl, List.filter_append, ← ht, List.take_succ_eq_append_getElem (by simp; omega), List.take_set_of_le (Nat.le_refl _)]
        simp [hp]
      · rw [List.drop_set_of_lt (by omega)]; exact e.2

theorem e_DeleteFunc {N : Nat} {l : List Str} {del : Str → Option Bool} (p : Str → Bool) (hdel : ∀ x ∈ l, del x = some (p x)) (hl : l.length ≤ 4000000000) (hN : l.length + 1 < N) : m_slices_DeleteFunc_string N l del = some (l.filter fun x => !p x) := by
  unfold m_slices_DeleteFunc_string m_slices_IndexFunc_string
  rw [find_list p (fun k => (k : Int)) (fun n k => m_slices_IndexFunc_string_L4 N l del n k) l (fun k => k) N (by omega) ?_ ?_, Option.bind_some]
  · cases hf : l.findIdx? p with
    | none =>
      simp only [Ex.go, Option.bind_some]
      rw [eqb_true.2 rfl, cond_true, List.filter_eq_self.2 (fun x hx => by
        have := List.findIdx?_eq_none_iff.1 hf x hx
        simp [this])]
    | some i =>
      obtain ⟨hi, h1, h2⟩ := List.findIdx?_eq_some_iff_getElem.1 hf
      simp only [Ex.go, Option.bind_some]
      rw [eqb_false.2 (by omega), cond_false]
      have hw : w64 ((i : Int) + 1) = ((i + 1 : Nat) : Int) := by rw [w64_id (by omega)]; rfl
      rw [hw]
      obtain ⟨s1, i1, j1, g1, g2, g3, g4⟩ := del_loop (N := N) p hdel hl (l.length - (i + 1)) N i (i + 1) l rfl (by omega) (by omega) (by omega) rfl (by
        have pre : ∀ x ∈ l.take i, p x = false := fun x hx => by
          obtain ⟨j, hj, rfl⟩ := List.mem_take_iff_getElem.1 hx
          have := h2 j (by omega)
          simpa using this
        rw [List.take_succ_eq_append_getElem hi, List.filter_append, List.filter_eq_self.2 (fun x hx => by simp [pre x hx])]
        simp [h1]) rfl
      rw [g1, Option.bind_some]
      simp only
      rw [slFrom_nat (by omega), Option.bind_some, Int.toNat_natCast, slTo_nat (by simp; omega), Option.bind_some, List.take_append_of_le_length (by simp; omega), List.take_take, Nat.min_self, g4]
  · rintro n k rfl
    simp only [m_slices_IndexFunc_string_L4]
    rw [ltb_false.2 (by omega)]; rfl
  · intro n k h
    simp only [m_slices_IndexFunc_string_L4]
    rw [ltb_true.2 (by omega), cond_true, List.getElem?_eq_getElem h, Option.bind_some, hdel _ (List.getElem_mem h), Option.bind_some]

/-! ## What is new in a flow -/

def newS (f g : Flow) (s : Step) : Bool := !hasB (g.steps.map (·.name)) s.name
def newF (f g : Flow) : List Str := bif flowOk f && flowOk g then (f.steps.filter (newS f g)).map (·.name) else []

theorem newF_len (f g : Flow) : (newF f g).length ≤ f.steps.length := by
  unfold newF
  cases flowOk f && flowOk g with
  | false => simp
  | true => simp only [cond_true, List.length_map]; exact List.length_filter_le _ _

theorem newF_self (f : Flow) : newF f f = [] := by
  unfold newF
  have : f.steps.filter (newS f f) = [] := by
    rw [List.filter_eq_nil_iff]
    intro s hs
    unfold newS
    rw [hasB_true.2 (List.mem_map_of_mem hs)]
    simp
  rw [this]
  cases flowOk f && flowOk f <;> rfl

/-! ## What both have -/

theorem sub_len : ∀ {a b : List Str}, a.Nodup → (∀ x ∈ a, x ∈ b) → a.length ≤ b.length
  | [], _, _, _ => by simp
  | x :: a, b, hn, hs => by
    rw [List.nodup_cons] at hn
    have hx := hs x (by simp)
    have h1 := sub_len (a := a) (b := b.filter fun y => decide (y ≠ x)) hn.2 (fun y hy => List.mem_filter.2 ⟨hs y (by simp [hy]), by
      rw [decide_eq_true_eq]
      intro e
      exact hn.1 (e ▸ hy)⟩)
    have h2 : (b.filter fun y => decide (y ≠ x)).length < b.length := List.length_filter_lt_length_iff_exists.2 ⟨x, hx, by simp⟩
    simp only [List.length_cons]
    omega

theorem adj_pw {α : Type} {R : α → α → Prop} (ht : ∀ {a b c}, R a b → R b c → R a c) {l : List α} (h : ∀ i (hi : i < l.length) (h0 : 0 < i), R l[i-1] l[i]) : l.Pairwise R := by
  rw [List.pairwise_iff_getElem]
  intro i j
  induction j with
  | zero => intro _ _ h; omega
  | succ j ih =>
    intro hi hj hij
    have a := h (j + 1) hj (by omega)
    simp only [Nat.add_sub_cancel] at a
    rcases Nat.lt_or_ge i j with h1 | h1
    · exact ht (ih hi (by omega) h1) a
    · obtain rfl : i = j := by omega
      exact a

theorem flow_asc {f : Flow} (h : flowOk f = true) : f.steps.Pairwise fun a b => slt a.name b.name = true := by
  unfold flowOk at h
  rw [Bool.and_eq_true] at h
  refine adj_pw (R := fun a b : Step => slt a.name b.name = true) (fun h1 h2 => slt_trans h1 h2) fun i hi h0 => ?_
  have := allIdx_true.1 h.1 i hi
  unfold flowStep at this
  simp only [Bool.and_eq_true, Nat.zero_add, Bool.or_eq_true, decide_eq_true_eq] at this
  rcases this.2.1 with h1 | h1
  · omega
  · rw [List.getElem?_eq_getElem (by omega)] at h1
    exact h1
theorem flow_nodup {f : Flow} (h : flowOk f = true) : (f.steps.map (·.name)).Nodup := by
  rw [List.nodup_iff_pairwise_ne, List.pairwise_map]
  exact (flow_asc h).imp fun h => slt_ne h

theorem both_le {f g : Flow} (hf : flowOk f = true) : ((f.steps.filter fun s => hasB (g.steps.map (·.name)) s.name)).length ≤ ((g.steps.filter fun s => hasB (f.steps.map (·.name)) s.name)).length := by
  have h := sub_len (a := (f.steps.filter fun s => hasB (g.steps.map (·.name)) s.name).map (·.name)) (b := (g.steps.filter fun s => hasB (f.steps.map (·.name)) s.name).map (·.name))
    ((flow_nodup hf).sublist (List.filter_sublist.map _)) (fun x hx => by
      obtain ⟨s, hs, rfl⟩ := List.mem_map.1 hx
      rw [List.mem_filter] at hs
      obtain ⟨t, ht, e⟩ := List.mem_map.1 (hasB_true.1 hs.2)
      exact List.mem_map.2 ⟨t, List.mem_filter.2 ⟨ht, hasB_true.2 (e ▸ List.mem_map_of_mem hs.1)⟩, e⟩)
  simpa using h

theorem count_split {f g : Flow} : f.steps.length = (f.steps.filter fun s => hasB (g.steps.map (·.name)) s.name).length + (f.steps.filter (newS f g)).length := by
  have key : ∀ l : List Step, l.length = (l.filter fun s => hasB (g.steps.map (·.name)) s.name).length + (l.filter (newS f g)).length := by
    intro l
    induction l with
    | nil => rfl
    | cons s l ih =>
      have e : newS f g s = !hasB (g.steps.map (·.name)) s.name := rfl
      simp only [List.filter_cons, e, List.length_cons]
      cases hasB (g.steps.map (·.name)) s.name <;> simp <;> omega
  exact key _

end Go.Proofs.YtmnhnldnnniglaaGreat
