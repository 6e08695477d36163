/- The law: versions ascend. -/
import Derived.Test.YthmifmpllgofkaaP25
set_option linter.all false
namespace Go.Proofs.Ythmifmpllgofkaa

theorem reg_len {l : List Flow} (h : regOk l = true) : l.length ≤ 4 := by
  unfold regOk at h
  rw [Bool.and_eq_true, leb_true] at h
  omega

/-- A flow twice is no registry. -/
theorem reg_twice {l : List Flow} {k : Nat} (hk : k < l.length) : regOk (l.take (k + 1) ++ l.drop k) = false := by
  rw [Bool.eq_false_iff]
  intro h
  have hl : (l.take (k + 1)).length = k + 1 := by rw [List.length_take]; omega
  have e1 : (l.take (k + 1) ++ l.drop k)[k]? = some l[k] := by
    rw [List.getElem?_append_left (by omega), List.getElem?_take_of_lt (by omega), List.getElem?_eq_getElem hk]
  have e2 : (l.take (k + 1) ++ l.drop k)[k + 1]? = some l[k] := by
    rw [List.getElem?_append_right (by omega), hl, Nat.sub_self, List.getElem?_drop, Nat.add_zero, List.getElem?_eq_getElem hk]
  obtain ⟨g1, f1⟩ := List.getElem?_eq_some_iff.1 e1
  obtain ⟨g2, f2⟩ := List.getElem?_eq_some_iff.1 e2
  have := List.pairwise_iff_getElem.1 (reg_asc h) k (k + 1) g1 g2 (by omega)
  rw [f1, f2] at this
  omega
theorem reg_drop {l : List Flow} {k : Nat} (h : regOk l = true) : regOk (dropAt l k) = true :=
  reg_of (fun f hf => reg_flow h ((dropAt_sub l k).subset hf)) ((reg_asc h).sublist (dropAt_sub l k)) (by have := reg_len h; have := (dropAt_sub l k).length_le; omega)

/-- The law. -/
theorem p_FnRegPart (u0 : List UInt8) (u1 : List UInt8) : ∃ N, m_laws_FnRegPart N u0 u1 = some true := by
  refine ⟨200, ?_⟩
  unfold m_laws_FnRegPart
  by_cases c0 : ltb 1048576 ((u0.length : Nat) : Int) = true
  · rw [c0, cond_true]
  rw [Bool.not_eq_true] at c0
  rw [c0, cond_false]
  by_cases c1 : ltb 1048576 ((u1.length : Nat) : Int) = true
  · rw [c1, cond_true]
  rw [Bool.not_eq_true] at c1
  rw [c1, cond_false]
  obtain ⟨l, h1, hl⟩ := e_DrawRegistryValid (N := 200) (code := u0) (by omega)
  have h0 := hl.1
  rw [h1, Option.bind_some, e_impl_RegistryValid hl (by omega) (by omega), Option.bind_some, e_spec_RegistryValid hl (by omega) (by omega), Option.bind_some]
  simp only [bne_self_eq_false, cond_false, beq_self_eq_true]
  cases hr : regOk l with
  | false => rfl
  | true =>
    simp only [Bool.not_true, cond_false]
    by_cases hz : l.length = 0
    · rw [eqb_true.2 (by omega)]; rfl
    · have hk : u1.length % l.length < l.length := Nat.mod_lt _ (by omega)
      rw [eqb_false.2 (show ((l.length : Nat) : Int) ≠ 0 by omega)]
      generalize u1.length % l.length = k at hk ⊢
      have t1 : (l.take k).length ≤ 8 := by rw [List.length_take]; omega
      have t2 : (l.take (k + 1)).length ≤ 8 := by rw [List.length_take]; omega
      have t3 : (l.drop k).length ≤ 8 := by rw [List.length_drop]; omega
      have t4 : (l.drop (k + 1)).length ≤ 8 := by rw [List.length_drop]; omega
      have ew : w64 (((k : Nat) : Int) + 1) = ((k + 1 : Nat) : Int) := by rw [w64_id (by omega)]; omega
      have e1 : slTo l ((k : Nat) : Int) = some (l.take k) := slTo_nat (by omega)
      have e2 : slTo l ((k + 1 : Nat) : Int) = some (l.take (k + 1)) := slTo_nat (by omega)
      have e3 : slFrom l ((k : Nat) : Int) = some (l.drop k) := slFrom_nat (by omega)
      have e4 : slFrom l ((k + 1 : Nat) : Int) = some (l.drop (k + 1)) := slFrom_nat (by omega)
      have a1 : appd ([] : List Flow) (l.take k) = some (l.take k) := appd_ok (by simp only [List.length_nil]; omega)
      have a2 : appd ([] : List Flow) (l.take (k + 1)) = some (l.take (k + 1)) := appd_ok (by simp only [List.length_nil]; omega)
      have a3 : appd (l.take k) (l.drop (k + 1)) = some (l.take k ++ l.drop (k + 1)) := appd_ok (by omega)
      have a4 : appd (l.take (k + 1)) (l.drop k) = some (l.take (k + 1) ++ l.drop k) := appd_ok (by omega)
      have sx : smallR (l.take k ++ l.drop (k + 1)) 16 := ⟨by rw [List.length_append]; omega, fun f hf => by
        have h8 := hl.2 f (by
          rcases List.mem_append.1 hf with h | h
          · exact List.mem_of_mem_take h
          · exact List.mem_of_mem_drop h)
        exact ⟨by have := h8.1; omega, fun s hs => ⟨by have := (h8.2 s hs).1; omega, by have := (h8.2 s hs).2.1; omega, fun z hz => by have := (h8.2 s hs).2.2 z hz; omega⟩⟩⟩
      have sy : smallR (l.take (k + 1) ++ l.drop k) 16 := ⟨by rw [List.length_append]; omega, fun f hf => by
        have h8 := hl.2 f (by
          rcases List.mem_append.1 hf with h | h
          · exact List.mem_of_mem_take h
          · exact List.mem_of_mem_drop h)
        exact ⟨by have := h8.1; omega, fun s hs => ⟨by have := (h8.2 s hs).1; omega, by have := (h8.2 s hs).2.1; omega, fun z hz => by have := (h8.2 s hs).2.2 z hz; omega⟩⟩⟩
      have vx := e_impl_RegistryValid (N := 200) sx (by omega) (by omega)
      have vy := e_impl_RegistryValid (N := 200) sy (by omega) (by omega)
      have rx : regOk (l.take k ++ l.drop (k + 1)) = true := reg_drop (k := k) hr
      rw [rx] at vx
      rw [reg_twice hk] at vy
      simp only [cond_false, ew, e1, e2, e3, e4, Option.bind_some, List.nil_append, a1, a2, a3, a4, vx, vy, cond_true, Bool.not_false]
end Go.Proofs.Ythmifmpllgofkaa
