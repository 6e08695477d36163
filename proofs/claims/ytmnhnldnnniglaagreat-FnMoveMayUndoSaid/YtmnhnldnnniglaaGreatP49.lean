/- More laws of who may move along with a change; what comes after a dropped step. -/
import Derived.Test.YtmnhnldnnniglaaGreatP46
set_option linter.all false
namespace Go.Proofs.YtmnhnldnnniglaaGreat

theorem e_DrawMoveMay2 {N : Nat} {code : List UInt8} (hN : 100 < N) : ∃ f c r, m_spec_DrawMoveMay N code = some (f, c, r) ∧ smallF f 16 ∧ smallS c.step 16 ∧ shortL r.done 16 := by
  unfold m_spec_DrawMoveMay m_spec_l91Both
  obtain ⟨f, q, h1, h2, h3, h4⟩ := e_l91Flow1 (N := N) (cd := code.take 2000) (p := 0) (by omega) (by omega)
  obtain ⟨r, s, g1, g2, g3⟩ := e_l91Run (N := N) (cd := code.take 2000) (p := q) h3 hN (by omega)
  obtain ⟨c, t, k1, k2, k3⟩ := e_l92Change (N := N) (cd := code.take 2000) (p := s) h3 h4 hN (by omega)
  rw [h1, Option.bind_some]
  simp only
  rw [g1, Option.bind_some, Option.bind_some]
  simp only
  rw [k1]
  exact ⟨f, c, r, rfl, small_up h3 (by omega), k3.up (by omega), g3⟩

theorem may_begin2 {f : Flow} {c : Change} {r : Run} (hf : smallF f 16) (hc : smallS c.step 16) (hr : shortL r.done 16) :
    m_impl_MoveMay 2000000 f c r = some (mayB f c r) ∧ m_spec_MoveMay 2000000 f c r = some (mayB f c r) ∧ m_spec_RunValid 2000000 f r = some (runOk f r) ∧ m_impl_FlowChange 2000000 f c = some (chF f c) :=
  ⟨e_impl_MoveMay hf hc hr.1 (by omega) (by omega) (by omega), e_spec_MoveMay hf hc hr.1 (by omega) (by omega) (by omega), e_spec_RunValid hf hr.1 (by omega) (by omega), e_impl_FlowChange hf hc (by omega) (by omega) (by omega)⟩

theorem may_went {f : Flow} {c : Change} {r : Run} (h1 : (chF f c).2 = true) (h2 : runOk f r = true) (h3 : r.state = 0 ∨ r.state = 2) : mayB f c r = kindC c r.done := by
  rw [may_kind, h1, h2]
  rcases h3 with h | h
  · rw [h, eq00]; simp
  · rw [h, eq20, eq22]; simp

/-- The law. -/
theorem p_FnMoveMayUndo (u0 : List UInt8) : ∃ N, m_laws_FnMoveMayUndo N u0 = some true := by
  refine ⟨2000000, ?_⟩
  unfold m_laws_FnMoveMayUndo
  refine begin1 ?_
  obtain ⟨f, c, r, h1, hf, hc, hr⟩ := e_DrawMoveMay2 (N := 2000000) (code := u0) (by omega)
  obtain ⟨fi, fs, rv, fc⟩ := may_begin2 hf hc hr
  cases hb : runOk f r with
  | false => simp only [h1, fi, fs, rv, hb, Option.bind_some, bne_self_eq_false, beq_self_eq_true, cond_true, cond_false, Bool.not_true, Bool.not_false]
  | true =>
    have key : (r.state = 0 ∨ r.state = 2) → (chF f c).2 = true → eqb c.kind 4 = true ∨ eqb c.kind 1 = true → mayB f c r = true := fun h h2 hk => by
      rw [may_went h2 hb h]
      unfold kindC
      rcases hk with hk | hk
      · rw [eqb_false.2 (by have := eqb_true.1 hk; omega), eqb_false.2 (by have := eqb_true.1 hk; omega)]; rfl
      · rw [eqb_false.2 (by have := eqb_true.1 hk; omega), eqb_false.2 (by have := eqb_true.1 hk; omega)]; rfl
    have fin : ∀ h : (r.state = 0 ∨ r.state = 2), ((bif !(chF f c).2 then some true else (bif !(eqb c.kind 4) then (bif !(eqb c.kind 1) then some true else some (mayB f c r)) else some (mayB f c r))) : Option Bool) = some true := fun h => by
      cases h2 : (chF f c).2 with
      | false => rfl
      | true =>
        cases hk : eqb c.kind 4 with
        | true => rw [key h h2 (.inl hk)]; rfl
        | false =>
          cases hk1 : eqb c.kind 1 with
          | true => rw [key h h2 (.inr hk1)]; rfl
          | false => rfl
    rcases st_cases (run_parts hb).2.2 with ⟨hs, _⟩ | ⟨hs, _⟩ | ⟨hs, _⟩ | ⟨hs, _⟩
    · have k := fin (.inl hs)
      simp only [h1, fi, fs, rv, hb, hs, eq01, eq03, fc, k, Option.bind_some, bne_self_eq_false, beq_self_eq_true, cond_true, cond_false, Bool.not_true]
    · have k := fin (.inr hs)
      simp only [h1, fi, fs, rv, hb, hs, eq21, eq23, fc, k, Option.bind_some, bne_self_eq_false, beq_self_eq_true, cond_true, cond_false, Bool.not_true]
    · simp only [h1, fi, fs, rv, hb, hs, eq11, Option.bind_some, bne_self_eq_false, beq_self_eq_true, cond_true, cond_false, Bool.not_true]
    · simp only [h1, fi, fs, rv, hb, hs, eq31, eq33, Option.bind_some, bne_self_eq_false, beq_self_eq_true, cond_true, cond_false, Bool.not_true]

/-- The law. -/
theorem p_FnMoveMayAdd (u0 : List UInt8) : ∃ N, m_laws_FnMoveMayAdd N u0 = some true := by
  refine ⟨2000000, ?_⟩
  unfold m_laws_FnMoveMayAdd
  refine begin1 ?_
  obtain ⟨f, c, r, h1, hf, hc, hr⟩ := e_DrawMoveMay2 (N := 2000000) (code := u0) (by omega)
  obtain ⟨fi, fs, rv, fc⟩ := may_begin2 hf hc hr
  have hd := hr.1
  cases hb : runOk f r with
  | false => simp only [h1, fi, fs, rv, hb, Option.bind_some, bne_self_eq_false, beq_self_eq_true, cond_true, cond_false, Bool.not_true, Bool.not_false]
  | true =>
    cases hm : mayB f c r with
    | true => simp only [h1, fi, fs, rv, hb, hm, Option.bind_some, bne_self_eq_false, beq_self_eq_true, cond_true, cond_false, Bool.not_true, Bool.not_false]
    | false =>
      have pl := e_placeOf (N := 2000000) (l := r.done) (s := c.step.name) (by omega)
      have fin : ∀ h : (r.state = 0 ∨ r.state = 2), ((bif !(chF f c).2 then some true else (bif eqb c.kind 2 then some (leb 0 (posOf id r.done c.step.name)) else (bif eqb c.kind 3 then some (leb 0 (posOf id r.done c.step.name)) else some false))) : Option Bool) = some true := fun h => by
        cases h2 : (chF f c).2 with
        | false => rfl
        | true =>
          have hk := may_went h2 hb h
          rw [hm] at hk
          unfold kindC at hk
          cases k2 : eqb c.kind 2 with
          | true =>
            rw [k2, cond_true] at hk
            simp only [Bool.not_true, cond_false, cond_true]
            rw [leb_not, ← hk]; rfl
          | false =>
            rw [k2, cond_false] at hk
            cases k3 : eqb c.kind 3 with
            | true =>
              rw [k3, cond_true] at hk
              unfold afterC at hk
              simp only [Bool.not_true, cond_false, cond_true]
              cases hl : leb 0 (posOf id r.done c.step.name) with
              | true => rfl
              | false => rw [hl] at hk; cases hk
            | false => rw [k3] at hk; cases hk
      rcases st_cases (run_parts hb).2.2 with ⟨hs, _⟩ | ⟨hs, _⟩ | ⟨hs, _⟩ | ⟨hs, _⟩
      · have k := fin (.inl hs)
        simp only [h1, fi, fs, rv, hb, hm, hs, eq01, eq03, fc, pl, k, Option.bind_some, bne_self_eq_false, beq_self_eq_true, cond_true, cond_false, Bool.not_true]
      · have k := fin (.inr hs)
        simp only [h1, fi, fs, rv, hb, hm, hs, eq21, eq23, fc, pl, k, Option.bind_some, bne_self_eq_false, beq_self_eq_true, cond_true, cond_false, Bool.not_true]
      · simp only [h1, fi, fs, rv, hb, hm, hs, eq11, Option.bind_some, bne_self_eq_false, beq_self_eq_true, cond_true, cond_false, Bool.not_true]
      · simp only [h1, fi, fs, rv, hb, hm, hs, eq31, eq33, Option.bind_some, bne_self_eq_false, beq_self_eq_true, cond_true, cond_false, Bool.not_true]
end Go.Proofs.YtmnhnldnnniglaaGreat
