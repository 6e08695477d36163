/- The laws: a dropped flow is gone; what is used is not dropped. -/
import Derived.Test.YthlhkinkcbamgaaP8
import Derived.Test.YthlhkinkcbamgaaP10
set_option linter.all false
namespace Go.Proofs.Ythlhkinkcbamgaa

def hasI (l : List Int) (v : Int) : Bool := l.any fun x => eqb v x
theorem e_Contains_int {N : Nat} {l : List Int} {v : Int} (hN : l.length < N) : m_slices_Contains_int N l v = some (hasI l v) := by
  unfold m_slices_Contains_int m_slices_Index_int
  rw [find_list (fun x => eqb v x) (fun k => (k : Int)) (fun n k => m_slices_Index_int_L4 N l v n k) l (fun k => k) N hN ?_ ?_, Option.bind_some]
  · unfold hasI
    cases h : l.findIdx? (fun x => eqb v x) with
    | none =>
      have : l.any (fun x => eqb v x) = false := by
        rw [List.any_eq_false]
        intro x hx
        have := List.findIdx?_eq_none_iff.1 h x hx
        simp [this]
      rw [this]
      simp only [Ex.go, Option.bind_some]
      rw [leb_false.2 (by omega)]
    | some i =>
      obtain ⟨hi, h1, _⟩ := List.findIdx?_eq_some_iff_getElem.1 h
      have : l.any (fun x => eqb v x) = true := List.any_eq_true.2 ⟨_, List.getElem_mem hi, h1⟩
      rw [this]
      simp only [Ex.go, Option.bind_some]
      rw [leb_true.2 (by omega)]
  · rintro n k rfl
    simp only [m_slices_Index_int_L4]
    rw [ltb_false.2 (by omega)]; rfl
  · intro n k h
    simp only [m_slices_Index_int_L4]
    rw [ltb_true.2 (by omega), cond_true, List.getElem?_eq_getElem h, Option.bind_some]

def dropAt (l : List Flow) (i : Nat) : List Flow := l.take i ++ l.drop (i + 1)
def regDrop (l : List Flow) (v : Int) (used : List Int) : List Flow × Bool :=
  bif regOk l then (bif ltb (verAt l v) 0 then ([], false) else bif eqb (verAt l v) (((l.length : Nat) : Int) - 1) then ([], false) else bif hasI used v then ([], false) else (dropAt l (verAt l v).toNat, true)) else ([], false)

theorem e_Delete {N : Nat} {l : List Flow} {i : Nat} (hi : i < l.length) (hl : l.length ≤ 4000000000) : m_slices_Delete_Flow N l ((i : Nat) : Int) (w64 (((i : Nat) : Int) + 1)) = some (dropAt l i) := by
  unfold m_slices_Delete_Flow dropAt
  rw [w64_id (by omega), show ((i : Nat) : Int) + 1 = ((i + 1 : Nat) : Int) by omega, sl3_ok (by omega), Option.bind_some, eqb_false.2 (by omega), cond_false, slTo_nat (by omega), Option.bind_some, slFrom_nat (by omega), Option.bind_some, kle_ok (by omega)]
  rfl

theorem e_impl_RegistryDrop {N B : Nat} {l : List Flow} {v : Int} {u : List Int} (hl : smallR l B) (hu : u.length < N) (hB : B ≤ 1999999999) (hN : B < N) : m_impl_RegistryDrop N l v u = some (regDrop l v u) := by
  have h0 := hl.1
  unfold m_impl_RegistryDrop regDrop
  rw [e_impl_RegistryValid hl (by omega) hN, Option.bind_some, e_versionAt (by omega)]
  cases regOk l with
  | false => rfl
  | true =>
    simp only [Bool.not_true, cond_false, cond_true, Option.bind_some]
    rw [e_Contains_int hu, e_cloneFlows hl hB hN]
    rcases verAt_cases l v with h | ⟨i, hi, h, _⟩
    · rw [h, ltb_true.2 (by omega)]; rfl
    · rw [h, ltb_false.2 (by omega)]
      simp only [cond_false, Option.bind_some, Int.toNat_natCast]
      rw [e_Delete hi (by omega)]
      cases eqb ((i : Nat) : Int) (((l.length : Nat) : Int) - 1) <;> cases hasI u v <;> rfl

theorem e_spec_RegistryDrop {N B : Nat} {l : List Flow} {v : Int} {u : List Int} (hl : smallR l B) (hu : u.length < N) (hB : B ≤ 1999999999) (hN : B < N) : m_spec_RegistryDrop N l v u = some (regDrop l v u) := by
  have h0 := hl.1
  unfold m_spec_RegistryDrop regDrop
  rw [e_l14At (by omega), Option.bind_some, e_spec_RegistryValid hl (by omega) hN]
  cases regOk l with
  | false => rfl
  | true =>
    simp only [Bool.not_true, cond_false, cond_true, Option.bind_some]
    rw [e_l14Copy hl hB hN]
    rcases verAt_cases l v with h | ⟨i, hi, h, _⟩
    · rw [h, ltb_true.2 (by omega)]; rfl
    · have he : eqb (((i + 1 : Nat) : Nat) : Int) ((l.length : Nat) : Int) = eqb ((i : Nat) : Int) (((l.length : Nat) : Int) - 1) := by
        by_cases h1 : i + 1 = l.length
        · rw [eqb_true.2 (by omega), eqb_true.2 (by omega)]
        · rw [eqb_false.2 (by omega), eqb_false.2 (by omega)]
      rw [h, ltb_false.2 (by omega), w64_id (by omega), show ((i : Nat) : Int) + 1 = ((i + 1 : Nat) : Int) by omega, he]
      simp only [cond_false, Option.bind_some, Int.toNat_natCast]
      rw [slTo_nat (by omega), Option.bind_some, slFrom_nat (by omega), Option.bind_some, kle_ok (by omega)]
      cases eqb ((i : Nat) : Int) (((l.length : Nat) : Int) - 1) with
      | true => rfl
      | false =>
        simp only [cond_false]
        have hloop : m_spec_RegistryDrop_L10 N v u N 0 = some (bif hasI u v then .ret (([] : List Flow), false) else .brk u.length) := by
          rw [all_list (fun _ x => !eqb v x) (([] : List Flow), false) (fun n k => m_spec_RegistryDrop_L10 N v u n k) u (fun k => k) N hu ?_ ?_, allIdx_all]
          · unfold hasI
            have : u.all (fun x => !eqb v x) = !u.any (fun x => eqb v x) := by rw [List.not_any_eq_all_not]
            rw [this]
            cases u.any (fun x => eqb v x) <;> rfl
          · rintro n k rfl
            simp only [m_spec_RegistryDrop_L10]
            rw [ltb_false.2 (by omega)]; rfl
          · intro n k h
            simp only [m_spec_RegistryDrop_L10]
            rw [ltb_true.2 (by omega), cond_true, List.getElem?_eq_getElem h, Option.bind_some]
            have : eqb u[k] v = eqb v u[k] := by
              by_cases e : u[k] = v
              · rw [eqb_true.2 e, eqb_true.2 e.symm]
              · rw [eqb_false.2 e, eqb_false.2 (fun e2 => e e2.symm)]
            rw [this]
            cases eqb v u[k] <;> rfl
        rw [hloop]
        cases hasI u v <;> rfl

theorem drop_true {l : List Flow} {v : Int} {u : List Int} (h : (regDrop l v u).2 = true) : regOk l = true ∧ hasI u v = false ∧ ∃ i, i + 1 < l.length ∧ verAt l v = ((i : Nat) : Int) ∧ (∀ hi : i < l.length, l[i].ver = v) ∧ regDrop l v u = (dropAt l i, true) := by
  unfold regDrop at h ⊢
  cases hr : regOk l with
  | false => rw [hr] at h; cases h
  | true =>
    rw [hr] at h
    simp only [cond_true] at h ⊢
    rcases verAt_cases l v with h1 | ⟨i, hi, h1, h2⟩
    · rw [h1, ltb_true.2 (by omega)] at h; cases h
    · rw [h1, ltb_false.2 (by omega)] at h ⊢
      simp only [cond_false, Int.toNat_natCast] at h ⊢
      cases he : eqb ((i : Nat) : Int) (((l.length : Nat) : Int) - 1) with
      | true => rw [he] at h; cases h
      | false =>
        rw [he] at h
        simp only [cond_false] at h ⊢
        cases hh : hasI u v with
        | true => rw [hh] at h; cases h
        | false => exact ⟨trivial, rfl, i, by have := eqb_false.1 he; omega, rfl, fun _ => h2, rfl⟩

theorem reg_of {l : List Flow} (h1 : ∀ f ∈ l, flowOk f = true) (h2 : l.Pairwise fun a b => a.ver < b.ver) (h3 : l.length ≤ 4) : regOk l = true := by
  unfold regOk
  rw [Bool.and_eq_true, allIdx_true, leb_true]
  refine ⟨fun i hi => ?_, by omega⟩
  unfold regStep
  rw [h1 _ (List.getElem_mem hi), Bool.true_and, Nat.zero_add, Bool.or_eq_true, decide_eq_true_eq]
  rcases Nat.eq_zero_or_pos i with h0 | h0
  · exact .inl h0
  · right
    rw [List.getElem?_eq_getElem (by omega)]
    exact ltb_true.2 (List.pairwise_iff_getElem.1 h2 (i - 1) i (by omega) hi (by omega))

theorem dropAt_sub (l : List Flow) (i : Nat) : (dropAt l i).Sublist l := by
  have e : l = l.take i ++ l.drop i := (List.take_append_drop _ _).symm
  have d1 : (l.drop (i + 1)).Sublist (l.drop i) := by rw [← List.drop_drop]; exact List.drop_sublist _ _
  unfold dropAt
  conv => rhs; rw [e]
  exact List.Sublist.append (List.Sublist.refl _) d1
theorem dropAt_len {l : List Flow} {i : Nat} (h : i < l.length) : (dropAt l i).length = l.length - 1 := by
  unfold dropAt
  simp only [List.length_append, List.length_take, List.length_drop]
  omega

theorem dropAt_lt {l : List Flow} {i j : Nat} (hj : j < i) (hi : i < l.length) (h : j < (dropAt l i).length) : (dropAt l i)[j] = l[j]'(by omega) := by
  have e : (dropAt l i)[j]? = l[j]? := by
    unfold dropAt
    rw [List.getElem?_append_left (by rw [List.length_take]; omega), List.getElem?_take_of_lt hj]
  rw [List.getElem?_eq_getElem h, List.getElem?_eq_getElem (by omega)] at e
  exact Option.some.inj e
theorem dropAt_ge {l : List Flow} {i j : Nat} (hj : i ≤ j) (hi : i < l.length) (h : j < (dropAt l i).length) : (dropAt l i)[j] = l[j + 1]'(by have := dropAt_len hi; omega) := by
  have hl := dropAt_len hi
  have e : (dropAt l i)[j]? = l[j + 1]? := by
    unfold dropAt
    rw [List.getElem?_append_right (by rw [List.length_take]; omega), List.getElem?_drop, List.length_take]
    congr 1
    omega
  rw [List.getElem?_eq_getElem h, List.getElem?_eq_getElem (by omega)] at e
  exact Option.some.inj e

theorem small_sub {l m : List Flow} {B : Nat} (h : m.Sublist l) (hl : smallR l B) : smallR m B := ⟨by have := h.length_le; have := hl.1; omega, fun f hf => hl.2 f (h.subset hf)⟩

theorem drop_small {l : List Flow} {v : Int} {u : List Int} {B : Nat} (hl : smallR l B) : smallR (regDrop l v u).1 B := by
  unfold regDrop
  cases regOk l with
  | false => exact ⟨by simp, by simp⟩
  | true =>
    cases ltb (verAt l v) 0 with
    | true => exact ⟨by simp, by simp⟩
    | false =>
      cases eqb (verAt l v) (((l.length : Nat) : Int) - 1) with
      | true => exact ⟨by simp, by simp⟩
      | false =>
        cases hasI u v with
        | true => exact ⟨by simp, by simp⟩
        | false => exact small_sub (dropAt_sub _ _) hl

end Go.Proofs.Ythlhkinkcbamgaa
