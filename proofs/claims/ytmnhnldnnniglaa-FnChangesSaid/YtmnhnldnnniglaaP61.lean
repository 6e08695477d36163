/- The law: changes are made one after the other. -/
import Derived.Test.YtmnhnldnnniglaaP58
set_option linter.all false
namespace Go.Proofs.Ytmnhnldnnniglaa

/-- One round of the drawing of changes. -/
theorem draw_round {N : Nat} {cd : List UInt8} {p : Nat} {g : Flow} {out : List Change} {R : Type} (Pr : R → Prop) {A : Change × Nat → Flow × Bool → Option R} {B : Change × Nat → Flow × Bool → Int × Nat → Option R} {C : Change × Nat → Flow × Bool → Int × Nat → Option R}
    (hg : smallF g 8) (h0 : 0 < g.steps.length) (hN : 1000 < N) (hp : p + 1000 ≤ 1000000000) (hl : out.length ≤ 10)
    (hA : ∀ c q x, smallS c.step 8 → q ≤ p + 100 → x.2 = true → smallF x.1 8 → 0 < x.1.steps.length → ∃ r, A (c, q) x = some r ∧ Pr r)
    (hB : ∀ c q x v, smallS c.step 8 → q ≤ p + 100 → ∃ r, B (c, q) x (v, q + 1) = some r ∧ Pr r)
    (hC : ∀ c q x v, smallS c.step 8 → q ≤ p + 100 → ∃ r, C (c, q) x (v, q + 1) = some r ∧ Pr r) :
    ∃ r, (m_spec_l92Change N cd p g).bind (fun x28 => (m_spec_FlowChange N g x28.1).bind fun x32 => (bif x32.2 then (appd out [x28.1]).bind fun _ => A x28 x32 else (m_spec_l6Rd_pick N cd x28.2 8).bind fun x40 => (bif eqb x40.1 0 then (appd out [x28.1]).bind fun _ => B x28 x32 x40 else C x28 x32 x40))) = some r ∧ Pr r := by
  obtain ⟨c, q, k1, k2, k3⟩ := e_l92Change (N := N) (cd := cd) (p := p) hg h0 (by omega) (by omega)
  rw [k1, Option.bind_some]
  simp only
  rw [e_spec_FlowChange (B := 8) hg k3 (by omega) (by omega) (by omega), Option.bind_some, appd_ok (by simp; omega)]
  cases hb : (chF g c).2 with
  | true =>
    simp only [cond_true, Option.bind_some]
    obtain ⟨o1, o2, st, h3, h4, h5⟩ := ch_cases hb
    exact hA c q (chF g c) k3 k2 hb (chF_small g c) (by rw [h5]; exact flow_some h4)
  | false =>
    simp only [cond_false]
    rw [pick_ok (by omega), Option.bind_some]
    simp only
    cases eqb ((pickv cd q 8 : Nat) : Int) 0 with
    | true => simp only [cond_true, Option.bind_some]; exact hB c q (chF g c) _ k3 k2
    | false => simp only [cond_false]; exact hC c q (chF g c) _ k3 k2

def smallD (r : Flow × List Change) : Prop := smallF r.1 8 ∧ r.2.length ≤ 3 ∧ ∀ c ∈ r.2, smallS c.step 8
theorem smallD_mk {f : Flow} {l : List Change} (hf : smallF f 8) (h : l.length ≤ 3) (hs : ∀ c ∈ l, smallS c.step 8) : smallD (f, l) := ⟨hf, h, hs⟩
theorem add_ok {l : List Change} {c : Change} (h : ∀ x ∈ l, smallS x.step 8) (hc : smallS c.step 8) : ∀ x ∈ l ++ [c], smallS x.step 8 := fun x hx => by
  rcases List.mem_append.1 hx with h1 | h1
  · exact h x h1
  · rw [List.mem_singleton.1 h1]; exact hc
/-- The last round's end. -/
theorem draw_end {n : Int} {f : Flow} {l : List Change} (hn : n ≤ 3) (hf : smallF f 8) (h : l.length ≤ 3) (hs : ∀ c ∈ l, smallS c.step 8) : ∃ r, ((bif ltb (((0 + 1) + 1) + 1) n then none else some (f, l)) : Option (Flow × List Change)) = some r ∧ smallD r := by
  rw [ltb_false.2 (by omega)]
  exact ⟨_, rfl, smallD_mk hf h hs⟩
theorem draw_more {n k : Int} {f : Flow} {l : List Change} {X : Option (Flow × List Change)} (hf : smallF f 8) (h : l.length ≤ 3) (hs : ∀ c ∈ l, smallS c.step 8) (hX : ∃ r, X = some r ∧ smallD r) : ∃ r, ((bif ltb k n then X else some (f, l)) : Option (Flow × List Change)) = some r ∧ smallD r := by
  cases ltb k n with
  | true => exact hX
  | false => exact ⟨_, rfl, smallD_mk hf h hs⟩

theorem e_DrawFlowChanges {N : Nat} {code : List UInt8} (hN : 1000 < N) : ∃ f l, m_spec_DrawFlowChanges N code = some (f, l) ∧ smallF f 8 ∧ l.length ≤ 3 ∧ ∀ c ∈ l, smallS c.step 8 := by
  suffices h : ∃ r, m_spec_DrawFlowChanges N code = some r ∧ smallD r by
    obtain ⟨⟨f, l⟩, h1, h2, h3, h4⟩ := h
    exact ⟨f, l, h1, h2, h3, h4⟩
  unfold m_spec_DrawFlowChanges
  obtain ⟨f, p, h1, h2, h3, h4⟩ := e_l91Flow1 (N := N) (cd := code.take 2000) (p := 0) (by omega) (by omega)
  rw [h1, Option.bind_some, pick_ok (by omega), Option.bind_some]
  simp only
  have hn := pickv_lt (cd := code.take 2000) (p := p) (m := 4) (by omega)
  have hn3 : ((pickv (code.take 2000) p 4 : Nat) : Int) ≤ 3 := by omega
  generalize ((pickv (code.take 2000) p 4 : Nat) : Int) = n at hn3
  have nil : ∀ c ∈ ([] : List Change), smallS c.step 8 := by simp
  refine draw_more h3 (by simp) nil (draw_round (out := []) smallD h3 h4 hN (by omega) (by simp) ?_ ?_ ?_)
  · intro c1 q1 x1 hc1 hq1 hx1 hs1 hp1
    refine draw_more h3 (by simp) (add_ok nil hc1) (draw_round (out := [] ++ [c1]) smallD hs1 hp1 hN (by simp only; omega) (by simp) ?_ ?_ ?_)
    · intro c2 q2 x2 hc2 hq2 hx2 hs2 hp2
      simp only at hq2
      refine draw_more h3 (by simp) (add_ok (add_ok nil hc1) hc2) (draw_round (out := ([] ++ [c1]) ++ [c2]) smallD hs2 hp2 hN (by simp only; omega) (by simp) ?_ ?_ ?_)
      · intro c3 q3 x3 hc3 hq3 hx3 hs3 hp3
        exact draw_end hn3 h3 (by simp) (add_ok (add_ok (add_ok nil hc1) hc2) hc3)
      · intro c3 q3 x3 v hc3 hq3
        exact draw_end hn3 h3 (by simp) (add_ok (add_ok (add_ok nil hc1) hc2) hc3)
      · intro c3 q3 x3 v hc3 hq3
        exact draw_end hn3 h3 (by simp) (add_ok (add_ok nil hc1) hc2)
    · intro c2 q2 x2 v hc2 hq2
      simp only at hq2
      refine draw_more h3 (by simp) (add_ok (add_ok nil hc1) hc2) (draw_round (out := ([] ++ [c1]) ++ [c2]) smallD hs1 hp1 hN (by simp only; omega) (by simp) ?_ ?_ ?_)
      · intro c3 q3 x3 hc3 hq3 hx3 hs3 hp3
        exact draw_end hn3 h3 (by simp) (add_ok (add_ok (add_ok nil hc1) hc2) hc3)
      · intro c3 q3 x3 v hc3 hq3
        exact draw_end hn3 h3 (by simp) (add_ok (add_ok (add_ok nil hc1) hc2) hc3)
      · intro c3 q3 x3 v hc3 hq3
        exact draw_end hn3 h3 (by simp) (add_ok (add_ok nil hc1) hc2)
    · intro c2 q2 x2 v hc2 hq2
      simp only at hq2
      refine draw_more h3 (by simp) (add_ok nil hc1) (draw_round (out := [] ++ [c1]) smallD hs1 hp1 hN (by simp only; omega) (by simp) ?_ ?_ ?_)
      · intro c3 q3 x3 hc3 hq3 hx3 hs3 hp3
        exact draw_end hn3 h3 (by simp) (add_ok (add_ok nil hc1) hc3)
      · intro c3 q3 x3 v hc3 hq3
        exact draw_end hn3 h3 (by simp) (add_ok (add_ok nil hc1) hc3)
      · intro c3 q3 x3 v hc3 hq3
        exact draw_end hn3 h3 (by simp) (add_ok nil hc1)
  · intro c1 q1 x1 v1 hc1 hq1
    refine draw_more h3 (by simp) (add_ok nil hc1) (draw_round (out := [] ++ [c1]) smallD h3 h4 hN (by simp only; omega) (by simp) ?_ ?_ ?_)
    · intro c2 q2 x2 hc2 hq2 hx2 hs2 hp2
      simp only at hq2
      refine draw_more h3 (by simp) (add_ok (add_ok nil hc1) hc2) (draw_round (out := ([] ++ [c1]) ++ [c2]) smallD hs2 hp2 hN (by simp only; omega) (by simp) ?_ ?_ ?_)
      · intro c3 q3 x3 hc3 hq3 hx3 hs3 hp3
        exact draw_end hn3 h3 (by simp) (add_ok (add_ok (add_ok nil hc1) hc2) hc3)
      · intro c3 q3 x3 v hc3 hq3
        exact draw_end hn3 h3 (by simp) (add_ok (add_ok (add_ok nil hc1) hc2) hc3)
      · intro c3 q3 x3 v hc3 hq3
        exact draw_end hn3 h3 (by simp) (add_ok (add_ok nil hc1) hc2)
    · intro c2 q2 x2 v hc2 hq2
      simp only at hq2
      refine draw_more h3 (by simp) (add_ok (add_ok nil hc1) hc2) (draw_round (out := ([] ++ [c1]) ++ [c2]) smallD h3 h4 hN (by simp only; omega) (by simp) ?_ ?_ ?_)
      · intro c3 q3 x3 hc3 hq3 hx3 hs3 hp3
        exact draw_end hn3 h3 (by simp) (add_ok (add_ok (add_ok nil hc1) hc2) hc3)
      · intro c3 q3 x3 v hc3 hq3
        exact draw_end hn3 h3 (by simp) (add_ok (add_ok (add_ok nil hc1) hc2) hc3)
      · intro c3 q3 x3 v hc3 hq3
        exact draw_end hn3 h3 (by simp) (add_ok (add_ok nil hc1) hc2)
    · intro c2 q2 x2 v hc2 hq2
      simp only at hq2
      refine draw_more h3 (by simp) (add_ok nil hc1) (draw_round (out := [] ++ [c1]) smallD h3 h4 hN (by simp only; omega) (by simp) ?_ ?_ ?_)
      · intro c3 q3 x3 hc3 hq3 hx3 hs3 hp3
        exact draw_end hn3 h3 (by simp) (add_ok (add_ok nil hc1) hc3)
      · intro c3 q3 x3 v hc3 hq3
        exact draw_end hn3 h3 (by simp) (add_ok (add_ok nil hc1) hc3)
      · intro c3 q3 x3 v hc3 hq3
        exact draw_end hn3 h3 (by simp) (add_ok nil hc1)
  · intro c1 q1 x1 v1 hc1 hq1
    refine draw_more h3 (by simp) nil (draw_round (out := []) smallD h3 h4 hN (by simp only; omega) (by simp) ?_ ?_ ?_)
    · intro c2 q2 x2 hc2 hq2 hx2 hs2 hp2
      simp only at hq2
      refine draw_more h3 (by simp) (add_ok nil hc2) (draw_round (out := [] ++ [c2]) smallD hs2 hp2 hN (by simp only; omega) (by simp) ?_ ?_ ?_)
      · intro c3 q3 x3 hc3 hq3 hx3 hs3 hp3
        exact draw_end hn3 h3 (by simp) (add_ok (add_ok nil hc2) hc3)
      · intro c3 q3 x3 v hc3 hq3
        exact draw_end hn3 h3 (by simp) (add_ok (add_ok nil hc2) hc3)
      · intro c3 q3 x3 v hc3 hq3
        exact draw_end hn3 h3 (by simp) (add_ok nil hc2)
    · intro c2 q2 x2 v hc2 hq2
      simp only at hq2
      refine draw_more h3 (by simp) (add_ok nil hc2) (draw_round (out := [] ++ [c2]) smallD h3 h4 hN (by simp only; omega) (by simp) ?_ ?_ ?_)
      · intro c3 q3 x3 hc3 hq3 hx3 hs3 hp3
        exact draw_end hn3 h3 (by simp) (add_ok (add_ok nil hc2) hc3)
      · intro c3 q3 x3 v hc3 hq3
        exact draw_end hn3 h3 (by simp) (add_ok (add_ok nil hc2) hc3)
      · intro c3 q3 x3 v hc3 hq3
        exact draw_end hn3 h3 (by simp) (add_ok nil hc2)
    · intro c2 q2 x2 v hc2 hq2
      simp only at hq2
      refine draw_more h3 (by simp) nil (draw_round (out := []) smallD h3 h4 hN (by simp only; omega) (by simp) ?_ ?_ ?_)
      · intro c3 q3 x3 hc3 hq3 hx3 hs3 hp3
        exact draw_end hn3 h3 (by simp) (add_ok nil hc3)
      · intro c3 q3 x3 v hc3 hq3
        exact draw_end hn3 h3 (by simp) (add_ok nil hc3)
      · intro c3 q3 x3 v hc3 hq3
        exact draw_end hn3 h3 (by simp) nil

/-- The law. -/
theorem p_FnChanges (u0 : List UInt8) (u1 : List UInt8) : ∃ N, m_laws_FnChanges N u0 u1 = some true := by
  refine ⟨2000000, ?_⟩
  unfold m_laws_FnChanges
  refine begin1 (begin1 ?_)
  obtain ⟨f, l, h1, hf, hl, hs⟩ := e_DrawFlowChanges (N := 2000000) (code := u0) (by omega)
  have fi := e_impl_FlowChanges (N := 2000000) hf hs (by omega) (by omega) (by omega) (by omega) (by omega)
  have fs := e_spec_FlowChanges (N := 2000000) hf hs (by omega) (by omega) (by omega) (by omega) (by omega)
  have sm := chAll_small (l := l) hf
  have sr : m_laws_sameFlow 2000000 (chAll f l).1 (chAll f l).1 = some true := by rw [e_sameFlow sm (by omega), flowEq_true.2 rfl]
  cases hb : (chAll f l).2 with
  | false => simp only [h1, fi, fs, sr, hb, Option.bind_some, bne_self_eq_false, beq_self_eq_true, cond_true, cond_false, Bool.not_true, Bool.not_false]
  | true =>
    obtain ⟨a1, a2, a3⟩ := chAll_true hb
    generalize hk : u1.length % (l.length + 1) = k
    have hkl : k ≤ l.length := by
      have := Nat.mod_lt u1.length (show 0 < l.length + 1 by omega)
      omega
    have hz : lsz l.length = some () := if_pos (by omega)
    have t1 : slTo l ((k : Nat) : Int) = some (l.take k) := slTo_nat hkl
    have t2 : slFrom l ((k : Nat) : Int) = some (l.drop k) := slFrom_nat hkl
    have hs1 : ∀ c ∈ l.take k, smallS c.step 8 := fun c hc => hs c (List.mem_of_mem_take hc)
    have hs2 : ∀ c ∈ l.drop k, smallS c.step 8 := fun c hc => hs c (List.mem_of_mem_drop hc)
    have l1 : (l.take k).length ≤ 3 := by rw [List.length_take]; omega
    have l2 : (l.drop k).length ≤ 3 := by rw [List.length_drop]; omega
    have g1 := e_impl_FlowChanges (N := 2000000) hf hs1 (by omega) (by omega) (by omega) (by omega) (by omega)
    have g2 := e_impl_FlowChanges (N := 2000000) (chAll_small (l := l.take k) hf) hs2 (by omega) (by omega) (by omega) (by omega) (by omega)
    have e0 : chL f (l.take k ++ l.drop k) = chL f l := by rw [List.take_append_drop]
    rw [chL_append] at e0
    have c1 : (chL f (l.take k)).2 = true := by
      cases hc : (chL f (l.take k)).2 with
      | true => rfl
      | false =>
        rw [hc] at e0
        rw [← e0] at a2
        cases a2
    rw [c1, cond_true] at e0
    have d1 : chAll f (l.take k) = chL f (l.take k) := by unfold chAll; rw [a1]; rfl
    have ok1 := chL_ok (l.take k) f a1 c1
    have d2 : chAll (chL f (l.take k)).1 (l.drop k) = chL (chL f (l.take k)).1 (l.drop k) := by unfold chAll; rw [ok1]; rfl
    rw [d1, d2, e0, ← a3] at g2
    rw [d1] at g1
    have hv := chL_ver l f a2
    have hver := flow_verB a1
    have e1 : eqb (chAll f l).1.ver (w64 (f.ver + ((l.length : Nat) : Int))) = true := by
      rw [w64_id (by omega), a3]
      exact eqb_true.2 hv
    simp only [h1, fi, fs, sr, hb, hz, hk, t1, t2, g1, g2, c1, e1, Option.bind_some, bne_self_eq_false, beq_self_eq_true, cond_true, cond_false, Bool.not_true, Bool.not_false]
end Go.Proofs.Ytmnhnldnnniglaa
