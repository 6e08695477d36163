/- Lines of events: the four laws. -/
import Derived.Test.YtacecnffggffmaaDoorP74
set_option linter.all false
namespace Go.Proofs.YtacecnffggffmaaDoor

theorem evT_size {n : Int} {e : Event} : (evT n e).size ≤ 2000 := by
  unfold evT
  by_cases h : evOk n e
  · have hh := head_len (n := n.toNat) (by have := h.1; have := h.2.1; omega) e.kind (toB e.name)
    have hl := toB_len e.name
    have hsz := nameOk_size h.2.2.2.2
    have hc := check_lt (headB n.toNat e.kind (toB e.name))
    have hcl := dec_len (checkB (headB n.toNat e.kind (toB e.name)))
    rw [if_pos h, ofB_size, line_head, List.length_append, List.length_cons]
    omega
  · rw [if_neg h]; decide

theorem e_eqEvent {N : Nat} {e : Event} : m_laws_eqEvent N e e = some true := by
  unfold m_laws_eqEvent
  rw [eqb_true.2 rfl, Bool.not_true, cond_false, seq_self, Bool.not_true, cond_false]
theorem d_Changed {N : Nat} {cd : List UInt8} {p : Nat} {s : Str} (hp : p ≤ 1000) (hs : s.size ≤ 2000) : ∃ t q, m_spec_l91Changed N cd p s = some (t, q) ∧ t.size ≤ 5000 := by
  unfold m_spec_l91Changed
  cases h0 : seq s (⟨#[]⟩ : Str) with
  | true => exact ⟨_, _, rfl, by decide⟩
  | false =>
    have hpos : 1 ≤ s.size := by
      rcases Nat.eq_zero_or_pos s.size with h | h
      · refine absurd ?_ (seq_false.1 h0)
        apply toB_inj
        have := toB_len s
        rw [h] at this
        rw [List.length_eq_zero_iff.1 this]; rfl
      · exact h
    rw [cond_false, ssz_ok (by omega), Option.bind_some, pick_two (by omega), pick_two (by omega)]
    have hv := pickv_lt (cd := cd) (p := p) (m := ((s.size : Nat) : Int)) (by omega)
    simp only
    have hk : pickv cd p ((s.size : Nat) : Int) ≤ s.size := by omega
    generalize pickv cd p ((s.size : Nat) : Int) = k at hv hk
    have hu : ∀ (a b : Nat), a ≤ b → b ≤ s.size → ∃ u, ssub s (a : Int) (b : Int) = some u ∧ u.size ≤ 2000 := fun a b h1 h2 => ⟨_, ssub_B h1 h2, by
      have := toB_len s
      rw [ofB_size, List.length_take, List.length_drop]; omega⟩
    obtain ⟨u1, g1, g2⟩ := hu 0 k (by omega) hk
    obtain ⟨u2, g3, g4⟩ := hu (k + 1) s.size (by omega) (Nat.le_refl _)
    have ew : w64 ((k : Int) + 1) = ((k + 1 : Nat) : Int) := by rw [w64_id (by omega)]; omega
    rw [show ((0 : Nat) : Int) = 0 from rfl] at g1
    rw [g1, ew, g3]
    cases eqb ((pickv cd (p + 1) 6 : Nat) : Int) 0 with
    | true =>
      obtain ⟨x, h1, h2⟩ := e_of (N := N) (cd := cd) (p := p + 1 + 1) (l := [(⟨#[49]⟩ : Str), (⟨#[32]⟩ : Str), (⟨#[120]⟩ : Str), (⟨#[10]⟩ : Str), (⟨#[48]⟩ : Str)]) (B := 8) (by omega) (by simp) (by decide)
      rw [cond_true, Option.bind_some, Option.bind_some, h1, Option.bind_some]
      simp only
      rw [← ofB_toB u1, ← ofB_toB u2, ← ofB_toB x]
      have l1 := toB_len u1
      have l2 := toB_len u2
      have l3 := toB_len x
      rw [cat_B (by omega), Option.bind_some, cat_B (by rw [List.length_append]; omega), Option.bind_some]
      exact ⟨_, _, rfl, by rw [ofB_size, List.length_append, List.length_append]; omega⟩
    | false =>
      rw [cond_false]
      cases eqb ((pickv cd (p + 1) 6 : Nat) : Int) 1 with
      | true => exact ⟨_, _, rfl, by omega⟩
      | false => exact ⟨_, _, rfl, by omega⟩
theorem not_line {s : Str} {n : Int} {e : Event} (h : isLine s n e) {r : Bs} (hr : ∀ b ∈ r, b ≠ 32) (hne : r ≠ Lib.decDigits (checkB (headB n.toNat e.kind (toB e.name)))) : ∀ m d, ¬ isLine (ofB (headB n.toNat e.kind (toB e.name) ++ 32 :: r)) m d := by
  intro m d hk
  have e1 : splitW (headB n.toNat e.kind (toB e.name) ++ 32 :: r) = [Lib.decDigits n.toNat, wordB e.kind, toB e.name, r] := by
    rw [show headB n.toNat e.kind (toB e.name) ++ 32 :: r = joinW [Lib.decDigits n.toNat, wordB e.kind, toB e.name, r] by simp [headB, joinW]]
    refine split_join _ (by simp) fun w hw => ?_
    simp only [List.mem_cons, List.not_mem_nil, or_false] at hw
    rcases hw with rfl | rfl | rfl | rfl
    · exact dec_blank
    · exact word_blank
    · exact name_blank h.1.2.2.2.2
    · exact hr
  have e2 := line_words hk
  rw [toB_ofB, e1] at e2
  simp only [List.cons.injEq] at e2
  obtain ⟨a1, a2, a3, a4, _⟩ := e2
  have b0 := dec_inj h.1.1 h.1.2.1 hk.1.1 hk.1.2.1 a1
  have b1 := word_inj h.1.2.2.1 h.1.2.2.2.1 hk.1.2.2.1 hk.1.2.2.2.1 a2
  rw [← b0, ← b1, ← a3] at a4
  exact hne a4

end Go.Proofs.YtacecnffggffmaaDoor
