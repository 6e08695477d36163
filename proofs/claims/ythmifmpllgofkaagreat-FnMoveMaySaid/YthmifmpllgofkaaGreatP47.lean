/- The laws of who may move along with a change. -/
import Derived.Test.YthmifmpllgofkaaGreatP46
set_option linter.all false
namespace Go.Proofs.YthmifmpllgofkaaGreat

theorem e_DrawMoveMay {N : Nat} {code : List UInt8} (hN : 100 < N) : ∃ f c r, m_spec_DrawMoveMay N code = some (f, c, r) ∧ smallF f 16 ∧ smallS c.step 16 ∧ shortL r.done 16 := by
  unfold m_spec_DrawMoveMay m_spec_l91Both
  obtain ⟨f, q, h1, h2, h3, h4⟩ := e_l91Flow1 (N := N) (cd := code.take 2000) (p := 0) (by omega) (by omega)
  obtain ⟨r, s, g1, g2, g3⟩ := e_l91Run (N := N) (cd := code.take 2000) (p := q) h3 hN (by omega)
  obtain ⟨c, t, k1, k2, k3⟩ := e_l92Change (N := N) (cd := code.take 2000) (p := s) h3 h4 hN (by omega)
  rw [h1, Option.bind_some]
  simp only
  rw [g1, Option.bind_some, Option.bind_some]
  simp only
  rw [k1]
  exact ⟨f, c, r, rfl, small_up h3 (by omega), k3.up (by omega), g3⟩

theorem may_begin {f : Flow} {c : Change} {r : Run} (hf : smallF f 16) (hc : smallS c.step 16) (hr : shortL r.done 16) :
    m_impl_MoveMay 2000000 f c r = some (mayB f c r) ∧ m_spec_MoveMay 2000000 f c r = some (mayB f c r) ∧ m_spec_RunValid 2000000 f r = some (runOk f r) ∧ m_impl_FlowChange 2000000 f c = some (chF f c) :=
  ⟨e_impl_MoveMay hf hc hr.1 (by omega) (by omega) (by omega), e_spec_MoveMay hf hc hr.1 (by omega) (by omega) (by omega), e_spec_RunValid hf hr.1 (by omega) (by omega), e_impl_FlowChange hf hc (by omega) (by omega) (by omega)⟩

/-- The law. -/
theorem p_FnMoveMay (u0 : List UInt8) : ∃ N, m_laws_FnMoveMay N u0 = some true := by
  refine ⟨2000000, ?_⟩
  unfold m_laws_FnMoveMay
  refine begin1 ?_
  obtain ⟨f, c, r, h1, hf, hc, hr⟩ := e_DrawMoveMay (N := 2000000) (code := u0) (by omega)
  obtain ⟨fi, fs, rv, fc⟩ := may_begin hf hc hr
  cases hb : runOk f r with
  | false => simp only [h1, fi, fs, rv, hb, Option.bind_some, bne_self_eq_false, beq_self_eq_true, cond_true, cond_false, Bool.not_true, Bool.not_false]
  | true =>
    have ft := e_impl_FitRun (N := 2000000) (f := f) (g := (chF f c).1) (r := r) hf (small_up (chF_small f c) (by omega)) hr.1 (by omega) (by omega)
    have key : ∀ x : Bool, (eqb r.state 0 || eqb r.state 2) = true → ((bif !(chF f c).2 then some true else some (mayB f c r == (fitRun f (chF f c).1 r).2)) : Option Bool) = some true := fun _ hst => by
      cases h2 : (chF f c).2 with
      | false => rfl
      | true =>
        obtain ⟨o1, o2, st, h3, h4, h5⟩ := ch_cases h2
        simp only [Bool.not_true, cond_false]
        unfold mayB fitRun
        rw [h2, hb, hst, h5]
        simp only [h4, Bool.true_and, cond_true]
        cases ordOk st r.done <;> rfl
    rcases st_cases (run_parts hb).2.2 with ⟨hs, _⟩ | ⟨hs, _⟩ | ⟨hs, _⟩ | ⟨hs, _⟩
    · have k := key true (by rw [hs, eq00]; rfl)
      simp only [h1, fi, fs, rv, hb, hs, eq01, eq03, fc, ft, k, Option.bind_some, bne_self_eq_false, beq_self_eq_true, cond_true, cond_false, Bool.not_true]
    · have k := key true (by rw [hs, eq20, eq22]; rfl)
      simp only [h1, fi, fs, rv, hb, hs, eq21, eq23, fc, ft, k, Option.bind_some, bne_self_eq_false, beq_self_eq_true, cond_true, cond_false, Bool.not_true]
    · simp only [h1, fi, fs, rv, hb, hs, eq11, Option.bind_some, bne_self_eq_false, beq_self_eq_true, cond_true, cond_false, Bool.not_true]
    · simp only [h1, fi, fs, rv, hb, hs, eq31, eq33, Option.bind_some, bne_self_eq_false, beq_self_eq_true, cond_true, cond_false, Bool.not_true]

/-- The law. -/
theorem p_FnMoveMayNew (u0 : List UInt8) : ∃ N, m_laws_FnMoveMayNew N u0 = some true := by
  refine ⟨2000000, ?_⟩
  unfold m_laws_FnMoveMayNew
  refine begin1 ?_
  obtain ⟨f, c, r, h1, hf, hc, hr⟩ := e_DrawMoveMay (N := 2000000) (code := u0) (by omega)
  obtain ⟨fi, fs, rv, fc⟩ := may_begin hf hc hr
  cases hb : runOk f r with
  | false => simp only [h1, fi, fs, rv, hb, Option.bind_some, bne_self_eq_false, beq_self_eq_true, cond_true, cond_false, Bool.not_true, Bool.not_false]
  | true =>
    have hok := (run_parts hb).1
    have rn := e_impl_RunNew (N := 2000000) hf (by omega) (by omega)
    have m2 : m_impl_MoveMay 2000000 f c ⟨0, []⟩ = some (mayB f c ⟨0, []⟩) := e_impl_MoveMay hf hc (by simp) (by omega) (by omega) (by omega)
    have hr0 : runOk f ⟨0, []⟩ = true := by
      unfold runOk stOk
      simp only
      rw [hok, ord_nil, eq00, cond_true, ltb_true.2 (by have := flow_some hok; simp; omega)]
      rfl
    have e : mayB f c ⟨0, []⟩ = (chF f c).2 := by
      unfold mayB
      simp only
      rw [hr0, eq00, ord_nil]
      simp
    rw [e] at m2
    rw [hok] at rn
    simp only [h1, fi, fs, rv, hb, rn, fc, m2, Option.bind_some, bne_self_eq_false, beq_self_eq_true, cond_true, cond_false, Bool.not_true]
end Go.Proofs.YthmifmpllgofkaaGreat
