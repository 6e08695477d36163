/- The laws: a run that fits. -/
import Derived.Test.YthlhkinkcbamgaaP16
import Derived.Test.YthlhkinkcbamgaaP18
import Derived.Test.YthlhkinkcbamgaaP20
set_option linter.all false
namespace Go.Proofs.Ythlhkinkcbamgaa

theorem small_up2 {f : Flow} {B C : Nat} (hf : smallF f B) (h : B ≤ C) : smallF f C := ⟨by have := hf.1; omega, fun s hs => ⟨by have := (hf.2 s hs).1; omega, by have := (hf.2 s hs).2.1; omega, fun z hz => by have := (hf.2 s hs).2.2 z hz; omega⟩⟩
theorem sameRunB {N : Nat} {a b : Run} (hN : a.done.length < N) : m_laws_sameRun N a b = some (eqb a.state b.state && decide (a.done = b.done)) := by
  unfold m_laws_sameRun
  rw [e_sameTexts hN]
  cases eqb a.state b.state <;> rfl
theorem sameRun_it {N : Nat} {a : Run} (hN : a.done.length < N) : m_laws_sameRun N a a = some true := by
  rw [sameRunB hN, eqb_true.2 rfl, decide_eq_true rfl]; rfl

theorem e_l92Fit {N : Nat} {cd : List UInt8} {p : Nat} (hN : 100 < N) (hp : p + 3000 ≤ 1000000000) : ∃ f g r p', m_spec_l92Fit N cd p = some ((f, g, r), p') ∧ p' ≤ p + 1500 ∧ smallF f 8 ∧ smallF g 8 ∧ shortL r.done 16 := by
  unfold m_spec_l92Fit
  obtain ⟨f, r, q, h1, h2, h3, h4⟩ := e_l91Both (N := N) (cd := cd) (p := p) hN (by omega)
  obtain ⟨g, q2, g1, g2, g3⟩ := e_l92Other (N := N) (cd := cd) (p := q) h3 hN (by omega)
  rw [h1, Option.bind_some]
  simp only
  rw [g1]
  exact ⟨f, g, r, q2, rfl, by omega, h3, g3, h4⟩
theorem e_DrawFitRun {N : Nat} {code : List UInt8} (hN : 100 < N) : ∃ f g r, m_spec_DrawFitRun N code = some (f, g, r) ∧ smallF f 16 ∧ smallF g 16 ∧ shortL r.done 16 := by
  unfold m_spec_DrawFitRun
  obtain ⟨f, g, r, q, h1, h2, h3, h4, h5⟩ := e_l92Fit (N := N) (cd := code.take 2000) (p := 0) hN (by omega)
  rw [h1]
  exact ⟨f, g, r, rfl, small_up2 h3 (by omega), small_up2 h4 (by omega), h5⟩
theorem e_DrawMoveBoth {N : Nat} {code : List UInt8} (hN : 100 < N) : ∃ f g h r, m_spec_DrawMoveBoth N code = some (f, g, h, r) ∧ smallF f 16 ∧ smallF g 16 ∧ smallF h 16 ∧ shortL r.done 16 := by
  unfold m_spec_DrawMoveBoth
  obtain ⟨f, g, r, q, h1, h2, h3, h4, h5⟩ := e_l92Fit (N := N) (cd := code.take 2000) (p := 0) hN (by omega)
  obtain ⟨h, q2, g1, g2, g3⟩ := e_l92Other (N := N) (cd := code.take 2000) (p := q) h4 hN (by omega)
  rw [h1, Option.bind_some]
  simp only
  rw [g1]
  exact ⟨f, g, h, r, rfl, small_up2 h3 (by omega), small_up2 h4 (by omega), small_up2 g3 (by omega), h5⟩

/-- What all laws of runs that fit begin with. -/
theorem fit_begin {f g : Flow} {r : Run} (hf : smallF f 16) (hg : smallF g 16) (hr : shortL r.done 16) :
    m_impl_FitRun 200 f g r = some (fitRun f g r) ∧ m_spec_FitRun 200 f g r = some (fitRun f g r) ∧ m_laws_sameRun 200 (fitRun f g r).1 (fitRun f g r).1 = some true :=
  ⟨e_impl_FitRun hf hg hr.1 (by omega) (by omega), e_spec_FitRun hf hg hr.1 (by omega) (by omega), sameRun_it (by have := fit_len (f := f) (g := g) hr.1; omega)⟩

theorem begin0 {u0 : List UInt8} {x : Option Bool} (h : x = some true) : (bif ltb 1048576 ((u0.length : Nat) : Int) then some true else x) = some true := by
  rw [h]
  cases ltb 1048576 ((u0.length : Nat) : Int) <;> rfl

/-- The law. -/
theorem p_FnFitBack (u0 : List UInt8) : ∃ N, m_laws_FnFitBack N u0 = some true := by
  refine ⟨200, ?_⟩
  unfold m_laws_FnFitBack
  refine begin0 ?_
  obtain ⟨f, g, r, h1, hf, hg, hr⟩ := e_DrawFitRun (N := 200) (code := u0) (by omega)
  obtain ⟨fi, fs, sr⟩ := fit_begin hf hg hr
  have hl := fit_len (f := f) (g := g) hr.1
  have sl := hr.1
  have f2 : m_impl_FitRun 200 g f (fitRun f g r).1 = some (fitRun g f (fitRun f g r).1) := e_impl_FitRun hg hf hl (by omega) (by omega)
  have s2 : m_laws_sameRun 200 r r = some true := sameRun_it (by omega)
  cases hb : (fitRun f g r).2 with
  | false => simp only [h1, fi, fs, sr, hb, Option.bind_some, bne_self_eq_false, beq_self_eq_true, cond_true, cond_false, Bool.not_true, Bool.not_false]
  | true =>
    rw [fit_back hb] at f2
    simp only [h1, fi, fs, sr, hb, f2, s2, Option.bind_some, bne_self_eq_false, beq_self_eq_true, cond_true, cond_false, Bool.not_true, Bool.not_false]

/-- The law. -/
theorem p_FnFitEnded (u0 : List UInt8) : ∃ N, m_laws_FnFitEnded N u0 = some true := by
  refine ⟨200, ?_⟩
  unfold m_laws_FnFitEnded
  refine begin0 ?_
  obtain ⟨f, g, r, h1, hf, hg, hr⟩ := e_DrawFitRun (N := 200) (code := u0) (by omega)
  obtain ⟨fi, fs, sr⟩ := fit_begin hf hg hr
  cases hb : (fitRun f g r).2 with
  | false => simp only [h1, fi, fs, sr, hb, Option.bind_some, bne_self_eq_false, beq_self_eq_true, cond_true, cond_false, Bool.not_true, Bool.not_false]
  | true =>
    simp only [h1, fi, fs, sr, hb, Option.bind_some, bne_self_eq_false, beq_self_eq_true, cond_true, cond_false, Bool.not_true, Bool.not_false]
    obtain ⟨a1, a2, a3, a4, a5⟩ := fit_true hb
    rcases a5 with ⟨hs, e⟩ | ⟨hs, hlt, e⟩
    · have n1 : eqb r.state 1 = false := eqb_false.2 (by omega)
      have n3 : eqb r.state 3 = false := eqb_false.2 (by omega)
      simp only [n1, n3, cond_false, Option.bind_some, e]
      cases eqb ((r.done.length : Nat) : Int) ((g.steps.length : Nat) : Int)
      · simp [eq02]
      · simp [eq22]
    · have hlt2 : ltb (((fitRun f g r).1.done.length : Nat) : Int) ((g.steps.length : Nat) : Int) = true := ltb_true.2 (by rw [a4]; omega)
      rcases hs with hs | hs
      · simp only [hs, eq11, eq13, cond_true, cond_false, Option.bind_some, hlt2]
      · simp only [hs, eq31, eq33, cond_true, cond_false, Option.bind_some, hlt2]

/-- The law. -/
theorem p_FnFitSelf (u0 : List UInt8) : ∃ N, m_laws_FnFitSelf N u0 = some true := by
  refine ⟨200, ?_⟩
  unfold m_laws_FnFitSelf
  refine begin0 ?_
  obtain ⟨f, g, r, h1, hf, hg, hr⟩ := e_DrawFitRun (N := 200) (code := u0) (by omega)
  obtain ⟨fi, fs, sr⟩ := fit_begin hf hg hr
  have hl := fit_len (f := f) (g := g) hr.1
  have sl := hr.1
  have f2 : m_impl_FitRun 200 f f r = some (fitRun f f r) := e_impl_FitRun hf hf sl (by omega) (by omega)
  have f3 : m_impl_FitRun 200 g g (fitRun f g r).1 = some (fitRun g g (fitRun f g r).1) := e_impl_FitRun hg hg hl (by omega) (by omega)
  have s2 : m_laws_sameRun 200 r r = some true := sameRun_it (by omega)
  cases hb : (fitRun f g r).2 with
  | false => simp only [h1, fi, fs, sr, hb, Option.bind_some, bne_self_eq_false, beq_self_eq_true, cond_true, cond_false, Bool.not_true, Bool.not_false]
  | true =>
    rw [fit_self (fit_true hb).1] at f2
    rw [fit_self (fit_ok hb)] at f3
    simp only [h1, fi, fs, sr, hb, f2, f3, s2, Option.bind_some, bne_self_eq_false, beq_self_eq_true, cond_true, cond_false, Bool.not_true, Bool.not_false]

/-- The law. -/
theorem p_FnFitState (u0 : List UInt8) : ∃ N, m_laws_FnFitState N u0 = some true := by
  refine ⟨200, ?_⟩
  unfold m_laws_FnFitState
  refine begin0 ?_
  obtain ⟨f, g, r, h1, hf, hg, hr⟩ := e_DrawFitRun (N := 200) (code := u0) (by omega)
  obtain ⟨fi, fs, sr⟩ := fit_begin hf hg hr
  cases hb : (fitRun f g r).2 with
  | false => simp only [h1, fi, fs, sr, hb, Option.bind_some, bne_self_eq_false, beq_self_eq_true, cond_true, cond_false, Bool.not_true, Bool.not_false]
  | true =>
    simp only [h1, fi, fs, sr, hb, Option.bind_some, bne_self_eq_false, beq_self_eq_true, cond_true, cond_false, Bool.not_true, Bool.not_false]
    obtain ⟨a1, a2, a3, a4, a5⟩ := fit_true hb
    rcases a5 with ⟨hs, e⟩ | ⟨hs, hlt, e⟩
    · have n1 : eqb r.state 1 = false := eqb_false.2 (by omega)
      have n3 : eqb r.state 3 = false := eqb_false.2 (by omega)
      simp only [n1, n3, cond_false, Option.bind_some, e]
      cases eqb ((r.done.length : Nat) : Int) ((g.steps.length : Nat) : Int)
      · simp [eq01, eq03]
      · simp [eq21, eq23]
    · have hh : ∀ s : Int, s = 1 ∨ s = 3 → (eqb s 1 = true) ∨ (eqb s 1 = false ∧ eqb s 3 = true) := fun s h => by
        rcases h with h | h
        · exact .inl (eqb_true.2 h)
        · exact .inr ⟨eqb_false.2 (by omega), eqb_true.2 h⟩
      have e2 : (fitRun f g r).1.state = 1 ∨ (fitRun f g r).1.state = 3 := by
        rw [e]
        cases lastU g.steps r.done
        · exact .inr rfl
        · exact .inl rfl
      clear e
      rcases hh _ hs with k | ⟨k, k'⟩ <;> rcases hh _ e2 with j | ⟨j, j'⟩ <;> simp only [*, cond_true, cond_false, beq_self_eq_true]

/-- The law. -/
theorem p_FnFitRun (u0 : List UInt8) : ∃ N, m_laws_FnFitRun N u0 = some true := by
  refine ⟨200, ?_⟩
  unfold m_laws_FnFitRun
  refine begin0 ?_
  obtain ⟨f, g, r, h1, hf, hg, hr⟩ := e_DrawFitRun (N := 200) (code := u0) (by omega)
  obtain ⟨fi, fs, sr⟩ := fit_begin hf hg hr
  have hl := fit_len (f := f) (g := g) hr.1
  have sl := hr.1
  have f2 : m_impl_FitBad 200 g r.done = some (bothBad g r.done) := e_impl_FitBad hg hr.1 (by omega) (by omega)
  have f3 : m_impl_RunValid 200 g (fitRun f g r).1 = some (runOk g (fitRun f g r).1) := e_impl_RunValid hg hl (by omega) (by omega)
  have s2 : m_laws_sameTexts 200 (fitRun f g r).1.done r.done = some (decide ((fitRun f g r).1.done = r.done)) := e_sameTexts (by omega)
  cases hb : (fitRun f g r).2 with
  | false => simp only [h1, fi, fs, sr, hb, Option.bind_some, bne_self_eq_false, beq_self_eq_true, cond_true, cond_false, Bool.not_true, Bool.not_false]
  | true =>
    obtain ⟨a1, a2, a3, a4, a5⟩ := fit_true hb
    have e1 : (bothBad g r.done).2 = false := by
      unfold bothBad
      rw [a2, cond_true, bad_ord, a3]; rfl
    rw [fit_ok hb] at f3
    rw [decide_eq_true a4] at s2
    simp only [h1, fi, fs, sr, hb, f2, f3, s2, e1, Option.bind_some, bne_self_eq_false, beq_self_eq_true, cond_true, cond_false, Bool.not_true, Bool.not_false]

/-! ## Moved twice -/

theorem both_begin {f g h : Flow} {r : Run} (hf : smallF f 16) (hg : smallF g 16) (hh : smallF h 16) (hr : shortL r.done 16) :
    m_impl_MoveBoth 200 f g h r = some (moveBoth f g h r) ∧ m_spec_MoveBoth 200 f g h r = some (moveBoth f g h r) ∧ m_laws_sameRun 200 (moveBoth f g h r).1 (moveBoth f g h r).1 = some true :=
  ⟨e_impl_MoveBoth hf hg hh hr.1 (by omega) (by omega), e_spec_MoveBoth hf hg hh hr.1 (by omega) (by omega), sameRun_it (by have := both_len (f := f) (g := g) (h := h) hr.1; omega)⟩

theorem both_parts {f g h : Flow} {r : Run} (hb : (moveBoth f g h r).2 = true) : (fitRun f g r).2 = true ∧ (fitRun g h (fitRun f g r).1).2 = true ∧ moveBoth f g h r = fitRun g h (fitRun f g r).1 := by
  unfold moveBoth at hb ⊢
  cases hc : (fitRun f g r).2 with
  | false => rw [hc] at hb; cases hb
  | true => rw [hc] at hb; exact ⟨rfl, hb, rfl⟩

/-- The law. -/
theorem p_FnMoveBoth (u0 : List UInt8) : ∃ N, m_laws_FnMoveBoth N u0 = some true := by
  refine ⟨200, ?_⟩
  unfold m_laws_FnMoveBoth
  refine begin0 ?_
  obtain ⟨f, g, h, r, h1, hf, hg, hh, hr⟩ := e_DrawMoveBoth (N := 200) (code := u0) (by omega)
  obtain ⟨fi, fs, sr⟩ := both_begin hf hg hh hr
  have hl := both_len (f := f) (g := g) (h := h) hr.1
  have f2 : m_impl_FitRun 200 f h r = some (fitRun f h r) := e_impl_FitRun hf hh hr.1 (by omega) (by omega)
  have f3 : m_impl_RunValid 200 h (moveBoth f g h r).1 = some (runOk h (moveBoth f g h r).1) := e_impl_RunValid hh hl (by omega) (by omega)
  cases hb : (moveBoth f g h r).2 with
  | false => simp only [h1, fi, fs, sr, hb, Option.bind_some, bne_self_eq_false, beq_self_eq_true, cond_true, cond_false, Bool.not_true, Bool.not_false]
  | true =>
    obtain ⟨a1, a2, a3⟩ := both_parts hb
    rw [fit_way a1 a2, ← a3] at f2
    have e1 : runOk h (moveBoth f g h r).1 = true := by rw [a3]; exact fit_ok a2
    rw [e1] at f3
    simp only [h1, fi, fs, sr, hb, f2, f3, Option.bind_some, bne_self_eq_false, beq_self_eq_true, cond_true, cond_false, Bool.not_true, Bool.not_false]

/-- The law. -/
theorem p_FnMoveBothSelf (u0 : List UInt8) : ∃ N, m_laws_FnMoveBothSelf N u0 = some true := by
  refine ⟨200, ?_⟩
  unfold m_laws_FnMoveBothSelf
  refine begin0 ?_
  obtain ⟨f, g, h, r, h1, hf, hg, hh, hr⟩ := e_DrawMoveBoth (N := 200) (code := u0) (by omega)
  obtain ⟨fi, fs, sr⟩ := both_begin hf hg hh hr
  have sl := hr.1
  have f2 : m_impl_MoveBoth 200 f g f r = some (moveBoth f g f r) := e_impl_MoveBoth hf hg hf hr.1 (by omega) (by omega)
  have s2 : m_laws_sameRun 200 r r = some true := sameRun_it (by omega)
  cases hb : (moveBoth f g h r).2 with
  | false => simp only [h1, fi, fs, sr, hb, Option.bind_some, bne_self_eq_false, beq_self_eq_true, cond_true, cond_false, Bool.not_true, Bool.not_false]
  | true =>
    obtain ⟨a1, a2, a3⟩ := both_parts hb
    have e : moveBoth f g f r = (r, true) := by
      unfold moveBoth
      rw [a1, cond_true, fit_back a1]
    rw [e] at f2
    simp only [h1, fi, fs, sr, hb, f2, s2, Option.bind_some, bne_self_eq_false, beq_self_eq_true, cond_true, cond_false, Bool.not_true, Bool.not_false]
end Go.Proofs.Ythlhkinkcbamgaa
