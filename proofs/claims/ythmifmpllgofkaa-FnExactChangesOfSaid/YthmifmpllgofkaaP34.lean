/- The exact law of changes that lead to another flow. -/
import Derived.Test.YthmifmpllgofkaaP33
import Derived.Test.YthmifmpllgofkaaP22
import Derived.Test.YthmifmpllgofkaaP6
set_option linter.all false
namespace Go.Proofs.Ythmifmpllgofkaa

theorem wsum_bdC {α : Type} {c : α → Nat} {C : Nat} : ∀ {l : List α}, (∀ x ∈ l, c x ≤ C) → wsum c l ≤ l.length * C
  | [], _ => by simp [wsum]
  | x :: t, h => by
    have h1 := h x (by simp)
    have h2 := wsum_bdC (l := t) (fun y hy => h y (by simp [hy]))
    simp only [wsum, List.map_cons, List.sum_cons, List.length_cons, Nat.add_mul, Nat.one_mul] at h2 ⊢
    omega
theorem cFlow_bdC {f : Flow} (h : smallF f 1048576) : cFlow f ≤ 1099513724928 := by
  have h1 : wsum cStep f.steps ≤ f.steps.length * 1048578 := wsum_bdC fun s hs => by
    have := (h.2 s hs).2.1
    unfold cStep
    omega
  have := h.1
  unfold cFlow
  have h2 : f.steps.length * 1048578 ≤ 1048576 * 1048578 := Nat.mul_le_mul_right _ this
  omega

/-! ## Marks of changes -/

def stC (N : Nat) (c : Change) (k : Int) : Change × Int := (⟨k, ⟨mtx N (k + 1), (mkAll (stT N) c.step.after (k + 1 + 1)).1, eqb (Int.tmod (k + 1 + 1 + c.step.after.length) 3) 0⟩⟩, k + 1 + 1 + c.step.after.length + 1)
def cCh (c : Change) : Nat := c.step.after.length + 3
theorem stC_c (N : Nat) (x : Change) (k : Int) : k ≤ (stC N x k).2 ∧ (stC N x k).2 ≤ k + cCh x := by unfold stC cCh; simp only; omega

theorem mh_ChangeS {N : Nat} {l : List Change} {k : Int} (hN : 100 < N) (hl : l.length < N) (ha : ∀ c ∈ l, c.step.after.length < N) (h0 : 0 ≤ k) (h1 : k + wsum cCh l ≤ 4000000000000000000) :
    ∃ k' l', m_laws_markChangeS N l k = some (k', l') ∧ m_laws_heldChangeS N l' k = some k' ∧ k ≤ k' ∧ k' ≤ k + wsum cCh l := by
  have hc := mkAll_le (stC_c N) l k
  have e := mkAll_len (stC N) l k
  refine ⟨(mkAll (stC N) l k).2, (mkAll (stC N) l k).1, ?_, ?_, hc.1, hc.2⟩
  · unfold m_laws_markChangeS
    rw [mark_list (stC N) cCh 4000000000000000000 (fun n s k i => m_laws_markChangeS_L4 N l n s k i) l N hl k h0 h1 (stC_c N) ?_ ?_, Option.bind_some]
    · rfl
    · rintro n s k i rfl
      simp only [m_laws_markChangeS_L4]
      rw [ltb_false.2 (by omega)]; rfl
    · intro n s k i x h hs hx hxl hk hB
      have hal := ha x (by rw [hxl]; exact List.getElem_mem h)
      unfold cCh at hB
      simp only [m_laws_markChangeS_L4]
      rw [ltb_true.2 (by omega), cond_true, hx, Option.bind_some, w64_id (by omega), e_mtx hN (by omega) (by omega), Option.bind_some, List.getElem?_set_self (by omega), Option.bind_some]
      simp only
      rw [List.set_set, List.getElem?_set_self (by omega), Option.bind_some]
      simp only
      rw [w64_id (by omega), e_markStringS hN hal (by omega) (by omega), Option.bind_some]
      simp only
      rw [List.set_set, List.getElem?_set_self (by omega), Option.bind_some, List.set_set, w64_id (by omega)]
      rfl
  · unfold m_laws_heldChangeS
    rw [held_list (stC N) cCh 4000000000000000000 (fun n k2 i => m_laws_heldChangeS_L5 N (mkAll (stC N) l k).1 n k2 i) l N hl k h0 h1 (stC_c N) ?_ ?_, Option.bind_some]
    · rfl
    · rintro n k2 i rfl
      simp only [m_laws_heldChangeS_L5]
      rw [ltb_false.2 (by omega)]; rfl
    · intro n i x k2 h hxl hx hk hB
      have hal := ha x (by rw [hxl]; exact List.getElem_mem h)
      unfold cCh at hB
      simp only [m_laws_heldChangeS_L5]
      rw [ltb_true.2 (by omega), cond_true, hx, Option.bind_some]
      unfold stC
      simp only
      rw [eqb_true.2 rfl, w64_id (by omega), e_mtx hN (by omega) (by omega)]
      simp only [Bool.not_true, cond_false, Option.bind_some, seq_self, Ex.go]
      rw [w64_id (by omega), e_heldStringS hN hal (by omega) (by omega), Option.bind_some, ltb_false.2 (by omega), cond_false]
      simp only [bne_self_eq_false, cond_false]
      rw [w64_id (by omega)]

theorem e_eqChangeS_self {N : Nat} {l : List Change} (hl : l.length < N) (ha : ∀ c ∈ l, c.step.after.length < N) : m_laws_eqChangeS N l l = some true := by
  unfold m_laws_eqChangeS
  rw [eqb_true.2 rfl, Bool.not_true, cond_false, all_list (fun _ _ => true) false (fun n k => m_laws_eqChangeS_L8 N l l n k) l (fun k => k) N hl ?_ ?_, allIdx_all, List.all_eq_true.2 (fun _ _ => rfl)]
  · rfl
  · rintro n k rfl
    simp only [m_laws_eqChangeS_L8]
    rw [ltb_false.2 (by omega)]; rfl
  · intro n k h
    simp only [m_laws_eqChangeS_L8]
    have := ha _ (List.getElem_mem h)
    rw [ltb_true.2 (by omega), cond_true, List.getElem?_eq_getElem h, Option.bind_some, Option.bind_some]
    unfold m_laws_eqChange
    rw [eqb_true.2 rfl, e_eqStep_self (by omega)]
    rfl

/-- The law. -/
theorem p_FnExactChangesOf (f g : Flow) (h1 : szF f) (h2 : szF g) : ∃ N, m_laws_FnExactChangesOf N f g = some true := by
  refine ⟨140737488351232 + 2, ?_⟩
  unfold m_laws_FnExactChangesOf
  rw [e_szFlow (hugeF_of h1) (by omega) (by omega) (by omega), Option.bind_some]
  by_cases hc : gz (wFlow f) 1048576 < 0
  · rw [ltb_true.2 hc]; rfl
  rw [ltb_false.2 (by omega), cond_false]
  have c1 := gz_pos (Int.not_lt.1 hc)
  rw [e_szFlow (hugeF_of h2) (by omega) (by omega) (by omega), Option.bind_some]
  by_cases hd : gz (wFlow g) (gz (wFlow f) 1048576) < 0
  · rw [ltb_true.2 hd]; rfl
  rw [ltb_false.2 (by omega), cond_false]
  have c2 := gz_pos (Int.not_lt.1 hd)
  have s1 : smallF f 1048576 := small_flow (by omega)
  have s2 : smallF g 1048576 := small_flow (by omega)
  have l1 := s1.1; have l2 := s2.1
  have lo := ch_len s1 s2
  have so := ch_small (f := f) s2
  have b1 := cFlow_bdC s1; have b2 := cFlow_bdC s2
  have b3 : wsum cCh (chOf f g).1 ≤ (chOf f g).1.length * 1048579 := wsum_bdC fun c hc => by
    have := so c hc
    unfold cCh
    omega
  have b4 : (chOf f g).1.length * 1048579 ≤ 4194304 * 1048579 := Nat.mul_le_mul_right _ lo
  have t1 := e_toFlow (N := 140737488351232 + 2) s1 (by omega) (by omega)
  have t2 := e_toFlow (N := 140737488351232 + 2) s2 (by omega) (by omega)
  have fs := e_spec_ChangesOf (N := 140737488351232 + 2) s1 s2 (by omega) (by omega)
  have fi := e_impl_ChangesOf (N := 140737488351232 + 2) s1 s2 (by omega) (by omega)
  have q1 := e_eqFlow_self (N := 140737488351232 + 2) s1 (by omega)
  have q2 := e_eqFlow_self (N := 140737488351232 + 2) s2 (by omega)
  have q4 := e_eqChangeS_self (N := 140737488351232 + 2) (l := (chOf f g).1) (by omega) (fun c hc => by have := so c hc; omega)
  obtain ⟨k1, m1, a1, u1, v1⟩ := mk_Flow (N := 140737488351232 + 2) (f := f) (k := 1) (by omega) (by omega) (fun s hs => by have := (s1.2 s hs).2.1; omega) (by omega) (by omega)
  obtain ⟨k2, m2, a2, u2, v2⟩ := mk_Flow (N := 140737488351232 + 2) (f := g) (k := k1) (by omega) (by omega) (fun s hs => by have := (s2.2 s hs).2.1; omega) (by omega) (by omega)
  obtain ⟨k4, m4, a4, d4, u4, v4⟩ := mh_ChangeS (N := 140737488351232 + 2) (l := (chOf f g).1) (k := 1) (by omega) (by omega) (fun c hc => by have := so c hc; omega) (by omega) (by omega)
  have n2 : ltb k2 0 = false := ltb_false.2 (by omega)
  have n4 : ltb k4 0 = false := ltb_false.2 (by omega)
  have e4 : eqb k4 k4 = true := eqb_true.2 rfl
  simp only [t1, t2, fs, fi, q1, q2, q4, a1, a2, a4, d4, n2, n4, e4, Option.bind_some, Bool.not_true, cond_false, bne_self_eq_false, Ex.go]
end Go.Proofs.Ythmifmpllgofkaa
