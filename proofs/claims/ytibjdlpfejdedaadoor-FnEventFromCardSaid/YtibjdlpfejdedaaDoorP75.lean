/- Lines of events: the four laws. -/
import Derived.Test.YtibjdlpfejdedaaDoorP74
set_option linter.all false
namespace Go.Proofs.YtibjdlpfejdedaaDoor

theorem evT_size {n : Int} {e : Event} : (evT n e).size ≤ 2000 := by
  unfold evT
  by_cases h : evOk n e
  · have hh := head_len (n := n.toNat) (by have := h.1; have := h.2.1; omega) e.kind (toB e.name)
    have hl := toB_len e.name
    have hsz := nameOk_size h.2.2.2.2
    have hc := check_lt (headB n.toNat e.kind (toB e.name))
    have hcl := dec_len (checkB (headB n.toNat e.kind (toB e.name)))
    rw [if_pos h, ofB_size, line_head, List.length_append, List.length_cons]
    omega
  · rw [if_neg h]; decide

theorem d_EventText {N : Nat} {code : List UInt8} : ∃ n e, m_spec_DrawEventText N code = some (n, e) ∧ e.name.size ≤ 8 := by
  unfold m_spec_DrawEventText
  rw [pick_two (by omega), pick_two (by omega), pick_two (by omega)]
  simp only
  obtain ⟨x, h1, h2⟩ := e_l91Name (N := N) (cd := code.take 2000) (p := 0 + 1 + 1 + 1) (by omega)
  rw [h1, Option.bind_some]
  exact ⟨_, _, rfl, h2⟩

theorem p_FnEventText (code : List UInt8) : ∃ N, m_laws_FnEventText N code = some true := by
  refine ⟨3000001, ?_⟩
  unfold m_laws_FnEventText
  cases ltb 1048576 ((code.length : Nat) : Int) with
  | true => rfl
  | false =>
    rw [cond_false]
    obtain ⟨n, e, h1, h2⟩ := d_EventText (N := 3000001) (code := code)
    rw [h1, Option.bind_some]
    simp only
    rw [e_impl_EventText (by omega) (by omega), Option.bind_some, e_spec_EventText (by omega) (by omega), Option.bind_some, seq_self, Bool.not_true, cond_false]
    cases h3 : seq (evT n e) (⟨#[]⟩ : Str) with
    | true => rfl
    | false =>
      have hl : isLine (evT n e) n e := line_evT rfl (seq_false.1 h3)
      have := evT_size (n := n) (e := e)
      rw [cond_false, (from_line (by omega) (by omega) hl).1, Option.bind_some]
      simp only
      rw [cond_true, eqb_true.2 rfl, cond_true, eqb_true.2 rfl, seq_self]
      rfl

theorem e_eqEvent {N : Nat} {e : Event} : m_laws_eqEvent N e e = some true := by
  unfold m_laws_eqEvent
  rw [eqb_true.2 rfl, Bool.not_true, cond_false, seq_self, Bool.not_true, cond_false]
theorem p_FnExactEventFrom (s : Str) (hs : s.size ≤ 140737488351232) : ∃ N, m_laws_FnExactEventFrom N s = some true := by
  refine ⟨3000001, ?_⟩

  unfold m_laws_FnExactEventFrom
  rw [ssz_ok (by omega), Option.bind_some]
  by_cases hb : (1048576 : Int) < ((s.size : Nat) : Int)
  · rw [ltb_true.2 hb]; rfl
  · rw [ltb_false.2 (by omega), cond_false]
    obtain ⟨r, h1, h2, _⟩ := from_both (N := 3000001) (s := s) (by omega) (by omega)
    rw [h1, h2, Option.bind_some, Option.bind_some, eqb_true.2 rfl, Bool.not_true, cond_false, e_eqEvent, Option.bind_some, Bool.not_true, cond_false]
    simp

theorem d_Changed {N : Nat} {cd : List UInt8} {p : Nat} {s : Str} (hp : p ≤ 1000) (hs : s.size ≤ 2000) : ∃ t q, m_spec_l91Changed N cd p s = some (t, q) ∧ t.size ≤ 5000 := by
  unfold m_spec_l91Changed
  cases h0 : seq s (⟨#[]⟩ : Str) with
  | true => exact ⟨_, _, rfl, by decide⟩
  | false =>
    have hpos : 1 ≤ s.size := by
      rcases Nat.eq_zero_or_pos s.size with h | h
      · refine absurd ?_ (seq_false.1 h0)
        apply toB_inj
        have := toB_len s
        rw [h] at this
        rw [List.length_eq_zero_iff.1 this]; rfl
      · exact h
    rw [cond_false, ssz_ok (by omega), Option.bind_some, pick_two (by omega), pick_two (by omega)]
    have hv := pickv_lt (cd := cd) (p := p) (m := ((s.size : Nat) : Int)) (by omega)
    simp only
    have hk : pickv cd p ((s.size : Nat) : Int) ≤ s.size := by omega
    generalize pickv cd p ((s.size : Nat) : Int) = k at hv hk
    have hu : ∀ (a b : Nat), a ≤ b → b ≤ s.size → ∃ u, ssub s (a : Int) (b : Int) = some u ∧ u.size ≤ 2000 := fun a b h1 h2 => ⟨_, ssub_B h1 h2, by
      have := toB_len s
      rw [ofB_size, List.length_take, List.length_drop]; omega⟩
    obtain ⟨u1, g1, g2⟩ := hu 0 k (by omega) hk
    obtain ⟨u2, g3, g4⟩ := hu (k + 1) s.size (by omega) (Nat.le_refl _)
    have ew : w64 ((k : Int) + 1) = ((k + 1 : Nat) : Int) := by rw [w64_id (by omega)]; omega
    rw [show ((0 : Nat) : Int) = 0 from rfl] at g1
    rw [g1, ew, g3]
    cases eqb ((pickv cd (p + 1) 6 : Nat) : Int) 0 with
    | true =>
      obtain ⟨x, h1, h2⟩ := e_of (N := N) (cd := cd) (p := p + 1 + 1) (l := [(⟨#[49]⟩ : Str), (⟨#[32]⟩ : Str), (⟨#[120]⟩ : Str), (⟨#[10]⟩ : Str), (⟨#[48]⟩ : Str)]) (B := 8) (by omega) (by simp) (by decide)
      rw [cond_true, Option.bind_some, Option.bind_some, h1, Option.bind_some]
      simp only
      rw [← ofB_toB u1, ← ofB_toB u2, ← ofB_toB x]
      have l1 := toB_len u1
      have l2 := toB_len u2
      have l3 := toB_len x
      rw [cat_B (by omega), Option.bind_some, cat_B (by rw [List.length_append]; omega), Option.bind_some]
      exact ⟨_, _, rfl, by rw [ofB_size, List.length_append, List.length_append]; omega⟩
    | false =>
      rw [cond_false]
      cases eqb ((pickv cd (p + 1) 6 : Nat) : Int) 1 with
      | true => exact ⟨_, _, rfl, by omega⟩
      | false => exact ⟨_, _, rfl, by omega⟩
theorem d_EventFrom {N : Nat} (hN : 3000000 < N) {code : List UInt8} : ∃ s, m_spec_DrawEventFrom N code = some s ∧ s.size ≤ 5000 := by
  unfold m_spec_DrawEventFrom
  rw [pick_two (by omega), pick_two (by omega)]
  simp only
  obtain ⟨x, h1, h2⟩ := e_l91Name (N := N) (cd := code.take 2000) (p := 0 + 1 + 1) (by omega)
  rw [h1, Option.bind_some]
  simp only
  rw [e_spec_EventText (by simp only; omega) hN, Option.bind_some]
  obtain ⟨t, q, h3, h4⟩ := d_Changed (N := N) (cd := code.take 2000) (p := 0 + 1 + 1 + 2) (by omega) (evT_size (n := w64 (1 + ((pickv (code.take 2000) 0 20 : Nat) : Int))) (e := ⟨w64 (1 + ((pickv (code.take 2000) (0 + 1) 3 : Nat) : Int)), x⟩))
  rw [h3]
  exact ⟨_, rfl, h4⟩

theorem p_FnEventFrom (code : List UInt8) : ∃ N, m_laws_FnEventFrom N code = some true := by
  refine ⟨3000001, ?_⟩
  unfold m_laws_FnEventFrom
  cases ltb 1048576 ((code.length : Nat) : Int) with
  | true => rfl
  | false =>
    rw [cond_false]
    obtain ⟨s, h1, h2⟩ := d_EventFrom (N := 3000001) (by omega) (code := code)
    obtain ⟨r, h3, h4, h5⟩ := from_both (N := 3000001) (s := s) (by omega) (by omega)
    rw [h1, Option.bind_some, h3, Option.bind_some, h4, Option.bind_some, bne_self_eq_false, cond_false, eqb_true.2 rfl, Bool.not_true, cond_false, eqb_true.2 rfl, seq_self, Bool.and_self, Bool.not_true, cond_false, Option.bind_some]
    rcases h5 with ⟨rfl, _⟩ | ⟨n, e, rfl, hl⟩
    · rfl
    · have hn := (nameOk_size hl.1.2.2.2.2).2
      simp only [Bool.not_true, cond_false]
      rw [e_impl_EventText (by omega) (by omega), Option.bind_some, evT_line hl, seq_self]

theorem not_line {s : Str} {n : Int} {e : Event} (h : isLine s n e) {r : Bs} (hr : ∀ b ∈ r, b ≠ 32) (hne : r ≠ Lib.decDigits (checkB (headB n.toNat e.kind (toB e.name)))) : ∀ m d, ¬ isLine (ofB (headB n.toNat e.kind (toB e.name) ++ 32 :: r)) m d := by
  intro m d hk
  have e1 : splitW (headB n.toNat e.kind (toB e.name) ++ 32 :: r) = [Lib.decDigits n.toNat, wordB e.kind, toB e.name, r] := by
    rw [show headB n.toNat e.kind (toB e.name) ++ 32 :: r = joinW [Lib.decDigits n.toNat, wordB e.kind, toB e.name, r] by simp [headB, joinW]]
    refine split_join _ (by simp) fun w hw => ?_
    simp only [List.mem_cons, List.not_mem_nil, or_false] at hw
    rcases hw with rfl | rfl | rfl | rfl
    · exact dec_blank
    · exact word_blank
    · exact name_blank h.1.2.2.2.2
    · exact hr
  have e2 := line_words hk
  rw [toB_ofB, e1] at e2
  simp only [List.cons.injEq] at e2
  obtain ⟨a1, a2, a3, a4, _⟩ := e2
  have b0 := dec_inj h.1.1 h.1.2.1 hk.1.1 hk.1.2.1 a1
  have b1 := word_inj h.1.2.2.1 h.1.2.2.2.1 hk.1.2.2.1 hk.1.2.2.2.1 a2
  rw [← b0, ← b1, ← a3] at a4
  exact hne a4

theorem p_FnEventCut (code : List UInt8) : ∃ N, m_laws_FnEventCut N code = some true := by
  refine ⟨3000001, ?_⟩
  unfold m_laws_FnEventCut
  cases ltb 1048576 ((code.length : Nat) : Int) with
  | true => rfl
  | false =>
    rw [cond_false]
    obtain ⟨s, h1, h2⟩ := d_EventFrom (N := 3000001) (by omega) (code := code)
    obtain ⟨r, h3, h4, h5⟩ := from_both (N := 3000001) (s := s) (by omega) (by omega)
    rw [h1, Option.bind_some, h3, Option.bind_some, h4, Option.bind_some, bne_self_eq_false, cond_false, eqb_true.2 rfl, Bool.not_true, cond_false, eqb_true.2 rfl, seq_self, Bool.and_self, Bool.not_true, cond_false, Option.bind_some]
    rcases h5 with ⟨rfl, _⟩ | ⟨n, e, rfl, hl⟩
    · rfl
    · simp only [Bool.not_true, cond_false]
      have hsz := toB_len s
      have hdp := dec_pos (checkB (headB n.toNat e.kind (toB e.name)))
      have hb := (hl.2).trans (line_head _ _ _)
      have hlen : (toB s).length = (headB n.toNat e.kind (toB e.name)).length + 1 + (Lib.decDigits (checkB (headB n.toNat e.kind (toB e.name)))).length := by
        rw [hb, List.length_append, List.length_cons]; omega
      have hsub := ssub_B (s := s) (a := 0) (b := s.size - 1) (by omega) (by omega)
      rw [show ((0 : Nat) : Int) = 0 from rfl, show ((s.size - 1 : Nat) : Int) = ((s.size : Nat) : Int) - 1 by omega] at hsub
      have ecut : ((toB s).drop 0).take (s.size - 1 - 0) = headB n.toNat e.kind (toB e.name) ++ 32 :: (Lib.decDigits (checkB (headB n.toNat e.kind (toB e.name)))).dropLast := by
        rw [List.drop_zero, Nat.sub_zero, ← hsz, ← List.dropLast_eq_take, hb, List.dropLast_append_of_ne_nil (by simp), List.dropLast_cons_of_ne_nil (by intro h; rw [h] at hdp; simp at hdp)]
      have c1 := from_none (N := 3000001) (s := ofB (headB n.toNat e.kind (toB e.name) ++ 32 :: (Lib.decDigits (checkB (headB n.toNat e.kind (toB e.name)))).dropLast)) (by rw [ofB_size, List.length_append, List.length_cons, List.length_dropLast]; omega) (by omega) (not_line hl (fun b hb2 => dec_blank b (List.dropLast_subset _ hb2)) (fun h => by have := congrArg List.length h; rw [List.length_dropLast] at this; omega))
      have c2 := from_none (N := 3000001) (s := ofB (headB n.toNat e.kind (toB e.name) ++ 32 :: (Lib.decDigits (checkB (headB n.toNat e.kind (toB e.name))) ++ [48]))) (by rw [ofB_size, List.length_append, List.length_cons, List.length_append, List.length_singleton]; omega) (by omega) (not_line hl (fun b hb2 => by
          rcases List.mem_append.1 hb2 with h | h
          · exact dec_blank b h
          · rw [List.mem_singleton.1 h]; decide) (fun h => by have := congrArg List.length h; rw [List.length_append, List.length_singleton] at this; omega))
      have ecat : cat s (⟨#[48]⟩ : Str) = some (ofB (headB n.toNat e.kind (toB e.name) ++ 32 :: (Lib.decDigits (checkB (headB n.toNat e.kind (toB e.name))) ++ [48]))) := by
        have := cat_B (a := toB s) (b := [48]) (by simp only [List.length_singleton]; omega)
        rw [ofB_toB] at this
        rw [show (⟨#[48]⟩ : Str) = ofB [48] from rfl, this, hb, List.append_assoc, List.cons_append]
      rw [ssz_ok (by omega), Option.bind_some, hsub, Option.bind_some, ecut, c1.1, Option.bind_some, ecat, Option.bind_some, c2.1, Option.bind_some]
      rfl
end Go.Proofs.YtibjdlpfejdedaaDoor
