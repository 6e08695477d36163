/- Exact laws: a change of a flow; who may move along with it. -/
import Derived.Test.YthmifmpllgofkaaGreatP46
import Derived.Test.YthmifmpllgofkaaGreatP6
import Derived.Test.YthmifmpllgofkaaGreatP22
set_option linter.all false
namespace Go.Proofs.YthmifmpllgofkaaGreat

theorem wsum_bdD {α : Type} {c : α → Nat} {C : Nat} : ∀ {l : List α}, (∀ x ∈ l, c x ≤ C) → wsum c l ≤ l.length * C
  | [], _ => by simp [wsum]
  | x :: t, h => by
    have h1 := h x (by simp)
    have h2 := wsum_bdD (l := t) (fun y hy => h y (by simp [hy]))
    simp only [wsum, List.map_cons, List.sum_cons, List.length_cons, Nat.add_mul, Nat.one_mul] at h2 ⊢
    omega
theorem cFlow_bdD {f : Flow} (h : smallF f 1048576) : cFlow f ≤ 1099513724928 := by
  have h1 : wsum cStep f.steps ≤ f.steps.length * 1048578 := wsum_bdD fun s hs => by
    have := (h.2 s hs).2.1
    unfold cStep
    omega
  have := h.1
  unfold cFlow
  have h2 : f.steps.length * 1048578 ≤ 1048576 * 1048578 := Nat.mul_le_mul_right _ this
  omega
theorem hugeS_of {s : Step} (h : szS s) : hugeS s := ⟨h.1, h.2.1⟩
theorem e_toChange1 {N B : Nat} {c : Change} (hc : smallS c.step B) (hB : B ≤ 4000000000) (hN : B < N) : m_laws_toChange N c = some c := by
  have := hc.2.1
  unfold m_laws_toChange
  rw [e_toStep (by omega) (by omega)]; rfl
theorem e_szChange1 {N : Nat} {c : Change} {left : Int} (h : szC c) (hN : 140737488351232 < N) (h0 : 0 ≤ left) (h1 : left ≤ 1048576) : m_laws_szChange N c left = some (gz (wStep c.step) left) := by
  unfold m_laws_szChange
  rw [e_szStep (hugeS_of h.2) hN h0 h1, Option.bind_some]
  by_cases hd : gz (wStep c.step) left < 0
  · rw [ltb_true.2 hd, gz_m1 h0 hd]; rfl
  · rw [ltb_false.2 (by omega)]; rfl
theorem e_eqChange1 {N : Nat} {c : Change} (hN : c.step.after.length < N) : m_laws_eqChange N c c = some true := by
  unfold m_laws_eqChange
  rw [eqb_true.2 rfl, e_eqStep_self hN]; rfl
theorem e_toRun1 {N : Nat} {r : Run} (hl : r.done.length ≤ 4000000000) (hN : r.done.length < N) : m_laws_toRun N r = some r := by
  unfold m_laws_toRun
  rw [e_toStringS hl hN]; rfl
theorem e_szRun1 {N : Nat} {r : Run} {left : Int} (h : hugeL r.done) (hN : 140737488351232 < N) (h0 : 0 ≤ left) (h1 : left ≤ 1048576) : m_laws_szRun N r left = some (gz (wStrs r.done) left) := by
  unfold m_laws_szRun
  rw [e_szStringS h hN h0 h1, Option.bind_some]
  by_cases hd : gz (wStrs r.done) left < 0
  · rw [ltb_true.2 hd, gz_m1 h0 hd]; rfl
  · rw [ltb_false.2 (by omega)]; rfl
theorem e_eqRun1 {N : Nat} {r : Run} (hN : r.done.length < N) : m_laws_eqRun N r r = some true := by
  unfold m_laws_eqRun
  rw [eqb_true.2 rfl, e_eqStringS hN, decide_eq_true rfl]; rfl
theorem eqb_same {a : Int} : eqb a a = true := eqb_true.2 rfl
theorem mk_Change1 {N : Nat} {c : Change} {k : Int} (hN : 100 < N) (hl : c.step.after.length < N) (h0 : 0 ≤ k) (h1 : k + c.step.after.length ≤ 4000000000000000000) :
    ∃ k' l', m_laws_markChange N c k = some (k', l') ∧ k ≤ k' ∧ k' ≤ k + c.step.after.length := by
  refine ⟨k + c.step.after.length, (mkAll (stT N) c.step.after k).1, ?_, by omega, by omega⟩
  unfold m_laws_markChange m_laws_markStep
  rw [e_markStringS hN hl h0 h1]; rfl

/-- The law. -/
theorem p_FnExactFlowChange (f : Flow) (c : Change) (h1 : szF f) (h2 : szC c) : ∃ N, m_laws_FnExactFlowChange N f c = some true := by
  refine ⟨140737488351232 + 2, ?_⟩
  unfold m_laws_FnExactFlowChange
  rw [e_szFlow (hugeF_of h1) (by omega) (by omega) (by omega), Option.bind_some]
  by_cases hc : gz (wFlow f) 1048576 < 0
  · rw [ltb_true.2 hc]; rfl
  rw [ltb_false.2 (by omega), cond_false]
  have c1 := gz_pos (Int.not_lt.1 hc)
  rw [e_szChange1 h2 (by omega) (by omega) (by omega), Option.bind_some]
  by_cases hd : gz (wStep c.step) (gz (wFlow f) 1048576) < 0
  · rw [ltb_true.2 hd]; rfl
  rw [ltb_false.2 (by omega), cond_false]
  have c2 := gz_pos (Int.not_lt.1 hd)
  have s1 : smallF f 1048576 := small_flow (by omega)
  have s2 : smallS c.step 1048576 := small_step (by omega)
  have s3 : smallF (chF f c).1 1048576 := small_up (chF_small f c) (by omega)
  have l1 := s1.1; have l2 := s2.2.1; have l3 := s3.1
  have b1 := cFlow_bdD s1; have b3 := cFlow_bdD s3
  have t1 := e_toFlow (N := 140737488351232 + 2) s1 (by omega) (by omega)
  have t2 := e_toChange1 (N := 140737488351232 + 2) s2 (by omega) (by omega)
  have fs := e_spec_FlowChange (N := 140737488351232 + 2) s1 s2 (by omega) (by omega) (by omega)
  have fi := e_impl_FlowChange (N := 140737488351232 + 2) s1 s2 (by omega) (by omega) (by omega)
  have q1 := e_eqFlow_self (N := 140737488351232 + 2) s1 (by omega)
  have q2 := e_eqChange1 (N := 140737488351232 + 2) (c := c) (by omega)
  have q3 : m_laws_eqFlow (140737488351232 + 2) (chF f c).1 ⟨(chF f c).1.ver, (chF f c).1.steps⟩ = some true := e_eqFlow_self s3 (by omega)
  have q4 : m_laws_eqFlow (140737488351232 + 2) ⟨(chF f c).1.ver, (chF f c).1.steps⟩ ⟨(chF f c).1.ver, (chF f c).1.steps⟩ = some true := e_eqFlow_self s3 (by omega)
  obtain ⟨k1, m1, a1, u1, v1⟩ := mk_Flow (N := 140737488351232 + 2) (f := f) (k := 1) (by omega) (by omega) (fun s hs => by have := (s1.2 s hs).2.1; omega) (by omega) (by omega)
  obtain ⟨k2, m2, a2, u2, v2⟩ := mk_Change1 (N := 140737488351232 + 2) (c := c) (k := k1) (by omega) (by omega) (by omega) (by omega)
  obtain ⟨k4, m4, a4, d4, u4, v4⟩ := mh_Flow (N := 140737488351232 + 2) (f := (chF f c).1) (k := 1) (by omega) (by omega) (fun s hs => by have := (s3.2 s hs).2.1; omega) (by omega) (by omega)
  have n2 : ltb k2 0 = false := ltb_false.2 (by omega)
  have n4 : ltb k4 0 = false := ltb_false.2 (by omega)
  simp only [t1, t2, fs, fi, q1, q2, q3, q4, a1, a2, a4, d4, n2, n4, eqb_same, Option.bind_some, Bool.not_true, cond_false, bne_self_eq_false, Ex.go]

/-- The law. -/
theorem p_FnExactMoveMay (f : Flow) (c : Change) (r : Run) (h1 : szF f) (h2 : szC c) (h3 : szR r) : ∃ N, m_laws_FnExactMoveMay N f c r = some true := by
  refine ⟨140737488351232 + 2, ?_⟩
  unfold m_laws_FnExactMoveMay
  rw [e_szFlow (hugeF_of h1) (by omega) (by omega) (by omega), Option.bind_some]
  by_cases hc : gz (wFlow f) 1048576 < 0
  · rw [ltb_true.2 hc]; rfl
  rw [ltb_false.2 (by omega), cond_false]
  have c1 := gz_pos (Int.not_lt.1 hc)
  rw [e_szChange1 h2 (by omega) (by omega) (by omega), Option.bind_some]
  by_cases hd : gz (wStep c.step) (gz (wFlow f) 1048576) < 0
  · rw [ltb_true.2 hd]; rfl
  rw [ltb_false.2 (by omega), cond_false]
  have c2 := gz_pos (Int.not_lt.1 hd)
  rw [e_szRun1 h3.2 (by omega) (by omega) (by omega), Option.bind_some]
  by_cases he : gz (wStrs r.done) (gz (wStep c.step) (gz (wFlow f) 1048576)) < 0
  · rw [ltb_true.2 he]; rfl
  rw [ltb_false.2 (by omega), cond_false]
  have c3 := gz_pos (Int.not_lt.1 he)
  have s1 : smallF f 1048576 := small_flow (by omega)
  have s2 : smallS c.step 1048576 := small_step (by omega)
  have s3 : shortL r.done 1048576 := small_strs (by omega)
  have l1 := s1.1; have l2 := s2.2.1; have l3 := s3.1
  have t1 := e_toFlow (N := 140737488351232 + 2) s1 (by omega) (by omega)
  have t2 := e_toChange1 (N := 140737488351232 + 2) s2 (by omega) (by omega)
  have t3 := e_toRun1 (N := 140737488351232 + 2) (r := r) (by omega) (by omega)
  have fs := e_spec_MoveMay (N := 140737488351232 + 2) s1 s2 l3 (by omega) (by omega) (by omega)
  have fi := e_impl_MoveMay (N := 140737488351232 + 2) s1 s2 l3 (by omega) (by omega) (by omega)
  have q1 := e_eqFlow_self (N := 140737488351232 + 2) s1 (by omega)
  have q2 := e_eqChange1 (N := 140737488351232 + 2) (c := c) (by omega)
  have q3 := e_eqRun1 (N := 140737488351232 + 2) (r := r) (by omega)
  simp only [t1, t2, t3, fs, fi, q1, q2, q3, Option.bind_some, Bool.not_true, cond_false, bne_self_eq_false, Ex.go]
end Go.Proofs.YthmifmpllgofkaaGreat
