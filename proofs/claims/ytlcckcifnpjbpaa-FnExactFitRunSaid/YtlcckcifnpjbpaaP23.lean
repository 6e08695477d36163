/- Exact laws: runs that fit, registries. -/
import Derived.Test.YtlcckcifnpjbpaaP20
import Derived.Test.YtlcckcifnpjbpaaP22
import Derived.Test.YtlcckcifnpjbpaaP10
set_option linter.all false
namespace Go.Proofs.Ytlcckcifnpjbpaa

theorem wsum_bd {α : Type} {c : α → Nat} {C : Nat} : ∀ {l : List α}, (∀ x ∈ l, c x ≤ C) → wsum c l ≤ l.length * C
  | [], _ => by simp [wsum]
  | x :: t, h => by
    have h1 := h x (by simp)
    have h2 := wsum_bd (l := t) (fun y hy => h y (by simp [hy]))
    simp only [wsum, List.map_cons, List.sum_cons, List.length_cons, Nat.add_mul, Nat.one_mul] at h2 ⊢
    omega
theorem cFlow_bd {f : Flow} (h : smallF f 1048576) : cFlow f ≤ 1099513724928 := by
  have h1 : wsum cStep f.steps ≤ f.steps.length * 1048578 := wsum_bd fun s hs => by
    have := (h.2 s hs).2.1
    unfold cStep
    omega
  have := h.1
  unfold cFlow
  have h2 : f.steps.length * 1048578 ≤ 1048576 * 1048578 := Nat.mul_le_mul_right _ this
  omega
theorem cFlows_bd {l : List Flow} (h : smallR l 1048576) : wsum cFlow1 l ≤ 1152923703631839232 + 1048576 := by
  have h1 : wsum cFlow1 l ≤ l.length * 1099513724929 := wsum_bd fun f hf => by
    have := cFlow_bd (h.2 f hf)
    unfold cFlow1
    omega
  have h2 : l.length * 1099513724929 ≤ 1048576 * 1099513724929 := Nat.mul_le_mul_right _ h.1
  omega

theorem e_toRun {N : Nat} {r : Run} (hl : r.done.length ≤ 4000000000) (hN : r.done.length < N) : m_laws_toRun N r = some r := by
  unfold m_laws_toRun
  rw [e_toStringS hl hN]; rfl
theorem e_szRun {N : Nat} {r : Run} {left : Int} (h : hugeL r.done) (hN : 140737488351232 < N) (h0 : 0 ≤ left) (h1 : left ≤ 1048576) : m_laws_szRun N r left = some (gz (wStrs r.done) left) := by
  unfold m_laws_szRun
  rw [e_szStringS h hN h0 h1, Option.bind_some]
  by_cases hd : gz (wStrs r.done) left < 0
  · rw [ltb_true.2 hd, gz_m1 h0 hd]; rfl
  · rw [ltb_false.2 (by omega)]; rfl
theorem e_eqRun_self {N : Nat} {r : Run} (hN : r.done.length < N) : m_laws_eqRun N r r = some true := by
  unfold m_laws_eqRun
  rw [eqb_true.2 rfl, e_eqStringS hN, decide_eq_true rfl]; rfl
theorem eqb_self {a : Int} : eqb a a = true := eqb_true.2 rfl

/-- The law. -/
theorem p_FnExactFitRun (f g : Flow) (r : Run) (h1 : szF f) (h2 : szF g) (h3 : szR r) : ∃ N, m_laws_FnExactFitRun N f g r = some true := by
  refine ⟨140737488351232 + 2, ?_⟩
  unfold m_laws_FnExactFitRun
  rw [e_szFlow (hugeF_of h1) (by omega) (by omega) (by omega), Option.bind_some]
  by_cases hc : gz (wFlow f) 1048576 < 0
  · rw [ltb_true.2 hc]; rfl
  rw [ltb_false.2 (by omega), cond_false]
  have c1 := gz_pos (Int.not_lt.1 hc)
  rw [e_szFlow (hugeF_of h2) (by omega) (by omega) (by omega), Option.bind_some]
  by_cases hd : gz (wFlow g) (gz (wFlow f) 1048576) < 0
  · rw [ltb_true.2 hd]; rfl
  rw [ltb_false.2 (by omega), cond_false]
  have c2 := gz_pos (Int.not_lt.1 hd)
  rw [e_szRun h3.2 (by omega) (by omega) (by omega), Option.bind_some]
  by_cases he : gz (wStrs r.done) (gz (wFlow g) (gz (wFlow f) 1048576)) < 0
  · rw [ltb_true.2 he]; rfl
  rw [ltb_false.2 (by omega), cond_false]
  have c3 := gz_pos (Int.not_lt.1 he)
  have s1 : smallF f 1048576 := small_flow (by omega)
  have s2 : smallF g 1048576 := small_flow (by omega)
  have s3 : shortL r.done 1048576 := small_strs (by omega)
  have l1 := s1.1; have l2 := s2.1; have l3 := s3.1
  have lo : (fitRun f g r).1.done.length ≤ 1048576 := fit_len l3
  have b1 := cFlow_bd s1; have b2 := cFlow_bd s2
  have t1 := e_toFlow (N := 140737488351232 + 2) s1 (by omega) (by omega)
  have t2 := e_toFlow (N := 140737488351232 + 2) s2 (by omega) (by omega)
  have t3 := e_toRun (N := 140737488351232 + 2) (r := r) (by omega) (by omega)
  have fs := e_spec_FitRun (N := 140737488351232 + 2) s1 s2 l3 (by omega) (by omega)
  have fi := e_impl_FitRun (N := 140737488351232 + 2) s1 s2 l3 (by omega) (by omega)
  have q1 := e_eqFlow_self (N := 140737488351232 + 2) s1 (by omega)
  have q2 := e_eqFlow_self (N := 140737488351232 + 2) s2 (by omega)
  have q3 := e_eqRun_self (N := 140737488351232 + 2) (r := r) (by omega)
  have q4 : m_laws_eqRun (140737488351232 + 2) (fitRun f g r).1 ⟨(fitRun f g r).1.state, (fitRun f g r).1.done⟩ = some true := e_eqRun_self (by omega)
  have q5 : m_laws_eqRun (140737488351232 + 2) ⟨(fitRun f g r).1.state, (fitRun f g r).1.done⟩ ⟨(fitRun f g r).1.state, (fitRun f g r).1.done⟩ = some true := e_eqRun_self (by simp only; omega)
  obtain ⟨k1, m1, a1, -, u1, v1⟩ := mh_Flow (N := 140737488351232 + 2) (f := f) (k := 1) (by omega) (by omega) (fun s hs => by have := (s1.2 s hs).2.1; omega) (by omega) (by omega)
  obtain ⟨k2, m2, a2, -, u2, v2⟩ := mh_Flow (N := 140737488351232 + 2) (f := g) (k := k1) (by omega) (by omega) (fun s hs => by have := (s2.2 s hs).2.1; omega) (by omega) (by omega)
  obtain ⟨k3, m3, a3, -, u3, v3⟩ := mh_Run (N := 140737488351232 + 2) (r := r) (k := k2) (by omega) (by omega) (by omega) (by omega)
  obtain ⟨k4, m4, a4, d4, u4, v4⟩ := mh_Run (N := 140737488351232 + 2) (r := (fitRun f g r).1) (k := 1) (by omega) (by omega) (by omega) (by omega)
  have n3 : ltb k3 0 = false := ltb_false.2 (by omega)
  have n4 : ltb k4 0 = false := ltb_false.2 (by omega)
  simp only [t1, t2, t3, fs, fi, q1, q2, q3, q4, q5, a1, a2, a3, a4, d4, n3, n4, eqb_self, Option.bind_some, Bool.not_true, cond_false, bne_self_eq_false, Ex.go]

/-- The law. -/
theorem p_FnExactMoveBoth (f g h : Flow) (r : Run) (h1 : szF f) (h2 : szF g) (h4 : szF h) (h3 : szR r) : ∃ N, m_laws_FnExactMoveBoth N f g h r = some true := by
  refine ⟨140737488351232 + 2, ?_⟩
  unfold m_laws_FnExactMoveBoth
  rw [e_szFlow (hugeF_of h1) (by omega) (by omega) (by omega), Option.bind_some]
  by_cases hc : gz (wFlow f) 1048576 < 0
  · rw [ltb_true.2 hc]; rfl
  rw [ltb_false.2 (by omega), cond_false]
  have c1 := gz_pos (Int.not_lt.1 hc)
  rw [e_szFlow (hugeF_of h2) (by omega) (by omega) (by omega), Option.bind_some]
  by_cases hd : gz (wFlow g) (gz (wFlow f) 1048576) < 0
  · rw [ltb_true.2 hd]; rfl
  rw [ltb_false.2 (by omega), cond_false]
  have c2 := gz_pos (Int.not_lt.1 hd)
  rw [e_szFlow (hugeF_of h4) (by omega) (by omega) (by omega), Option.bind_some]
  by_cases hf : gz (wFlow h) (gz (wFlow g) (gz (wFlow f) 1048576)) < 0
  · rw [ltb_true.2 hf]; rfl
  rw [ltb_false.2 (by omega), cond_false]
  have c4 := gz_pos (Int.not_lt.1 hf)
  rw [e_szRun h3.2 (by omega) (by omega) (by omega), Option.bind_some]
  by_cases he : gz (wStrs r.done) (gz (wFlow h) (gz (wFlow g) (gz (wFlow f) 1048576))) < 0
  · rw [ltb_true.2 he]; rfl
  rw [ltb_false.2 (by omega), cond_false]
  have c3 := gz_pos (Int.not_lt.1 he)
  have s1 : smallF f 1048576 := small_flow (by omega)
  have s2 : smallF g 1048576 := small_flow (by omega)
  have s4 : smallF h 1048576 := small_flow (by omega)
  have s3 : shortL r.done 1048576 := small_strs (by omega)
  have l1 := s1.1; have l2 := s2.1; have l3 := s3.1; have l4 := s4.1
  have lo : (moveBoth f g h r).1.done.length ≤ 1048576 := both_len l3
  have b1 := cFlow_bd s1; have b2 := cFlow_bd s2; have b4 := cFlow_bd s4
  have t1 := e_toFlow (N := 140737488351232 + 2) s1 (by omega) (by omega)
  have t2 := e_toFlow (N := 140737488351232 + 2) s2 (by omega) (by omega)
  have t4 := e_toFlow (N := 140737488351232 + 2) s4 (by omega) (by omega)
  have t3 := e_toRun (N := 140737488351232 + 2) (r := r) (by omega) (by omega)
  have fs := e_spec_MoveBoth (N := 140737488351232 + 2) s1 s2 s4 l3 (by omega) (by omega)
  have fi := e_impl_MoveBoth (N := 140737488351232 + 2) s1 s2 s4 l3 (by omega) (by omega)
  have q1 := e_eqFlow_self (N := 140737488351232 + 2) s1 (by omega)
  have q2 := e_eqFlow_self (N := 140737488351232 + 2) s2 (by omega)
  have q6 := e_eqFlow_self (N := 140737488351232 + 2) s4 (by omega)
  have q3 := e_eqRun_self (N := 140737488351232 + 2) (r := r) (by omega)
  have q4 : m_laws_eqRun (140737488351232 + 2) (moveBoth f g h r).1 ⟨(moveBoth f g h r).1.state, (moveBoth f g h r).1.done⟩ = some true := e_eqRun_self (by omega)
  have q5 : m_laws_eqRun (140737488351232 + 2) ⟨(moveBoth f g h r).1.state, (moveBoth f g h r).1.done⟩ ⟨(moveBoth f g h r).1.state, (moveBoth f g h r).1.done⟩ = some true := e_eqRun_self (by simp only; omega)
  obtain ⟨k1, m1, a1, -, u1, v1⟩ := mh_Flow (N := 140737488351232 + 2) (f := f) (k := 1) (by omega) (by omega) (fun s hs => by have := (s1.2 s hs).2.1; omega) (by omega) (by omega)
  obtain ⟨k2, m2, a2, -, u2, v2⟩ := mh_Flow (N := 140737488351232 + 2) (f := g) (k := k1) (by omega) (by omega) (fun s hs => by have := (s2.2 s hs).2.1; omega) (by omega) (by omega)
  obtain ⟨k5, m5, a5, -, u5, v5⟩ := mh_Flow (N := 140737488351232 + 2) (f := h) (k := k2) (by omega) (by omega) (fun s hs => by have := (s4.2 s hs).2.1; omega) (by omega) (by omega)
  obtain ⟨k3, m3, a3, -, u3, v3⟩ := mh_Run (N := 140737488351232 + 2) (r := r) (k := k5) (by omega) (by omega) (by omega) (by omega)
  obtain ⟨k4, m4, a4, d4, u4, v4⟩ := mh_Run (N := 140737488351232 + 2) (r := (moveBoth f g h r).1) (k := 1) (by omega) (by omega) (by omega) (by omega)
  have n3 : ltb k3 0 = false := ltb_false.2 (by omega)
  have n4 : ltb k4 0 = false := ltb_false.2 (by omega)
  simp only [t1, t2, t3, t4, fs, fi, q1, q2, q3, q4, q5, q6, a1, a2, a3, a4, a5, d4, n3, n4, eqb_self, Option.bind_some, Bool.not_true, cond_false, bne_self_eq_false, Ex.go]
end Go.Proofs.Ytlcckcifnpjbpaa
