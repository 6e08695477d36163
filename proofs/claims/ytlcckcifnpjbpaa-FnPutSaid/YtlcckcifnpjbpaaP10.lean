/- The laws: a new flow is the newest one; what was put is found. -/
import Derived.Test.YtlcckcifnpjbpaaP9
import Derived.Test.YtlcckcifnpjbpaaP6
set_option linter.all false
namespace Go.Proofs.Ytlcckcifnpjbpaa

theorem e_cloneFlows {N B : Nat} {l : List Flow} (hl : smallR l B) (hB : B ≤ 1999999999) (hN : B < N) : m_impl_cloneFlows N l = some l := by
  have h0 := hl.1
  unfold m_impl_cloneFlows
  rw [pick_list (fun _ : Flow => true) (fun s => s) (fun n s k => m_impl_cloneFlows_L5 N l n s k) l (fun k s => (s, k)) N (by omega) ?_ ?_, Option.bind_some]
  · rw [List.filter_eq_self.2 (fun _ _ => rfl)]; simp [Ex.go]
  · rintro n s k rfl
    simp only [m_impl_cloneFlows_L5]
    rw [ltb_false.2 (by omega)]; rfl
  · intro n s k h hs
    simp only [m_impl_cloneFlows_L5]
    rw [ltb_true.2 (by omega), cond_true, List.getElem?_eq_getElem h, Option.bind_some, e_Flow_clone (hl.2 _ (List.getElem_mem h)) hB hN, Option.bind_some, appd_ok (by simp; omega)]; rfl
theorem e_l14Copy {N B : Nat} {l : List Flow} (hl : smallR l B) (hB : B ≤ 1999999999) (hN : B < N) : m_spec_l14Copy N l = some l := by
  have h0 := hl.1
  unfold m_spec_l14Copy
  rw [pick_list (fun _ : Flow => true) (fun s => s) (fun n s k => m_spec_l14Copy_L5 N l n s k) l (fun k s => (s, k)) N (by omega) ?_ ?_, Option.bind_some]
  · rw [List.filter_eq_self.2 (fun _ _ => rfl)]; simp [Ex.go]
  · rintro n s k rfl
    simp only [m_spec_l14Copy_L5]
    rw [ltb_false.2 (by omega)]; rfl
  · intro n s k h hs
    simp only [m_spec_l14Copy_L5]
    rw [ltb_true.2 (by omega), cond_true, List.getElem?_eq_getElem h, Option.bind_some, e_l2Copy (hl.2 _ (List.getElem_mem h)) hB hN, Option.bind_some, appd_ok (by simp; omega)]; rfl

def nextV (l : List Flow) : Int := if h : 0 < l.length then w64 ((l[l.length - 1]'(by omega)).ver + 1) else 1
theorem e_next (l : List Flow) : ((bif ltb 0 ((l.length : Nat) : Int) then (geti l (((l.length : Nat) : Int) - 1)).bind fun y => some (w64 (y.ver + 1)) else some 1) : Option Int) = some (nextV l) := by
  unfold nextV
  by_cases h : 0 < l.length
  · rw [dif_pos h, ltb_true.2 (by omega), cond_true, show ((l.length : Nat) : Int) - 1 = ((l.length - 1 : Nat) : Int) by omega, geti_nat, List.getElem?_eq_getElem (by omega), Option.bind_some]
  · rw [dif_neg h, ltb_false.2 (by omega), cond_false]

def putL (l : List Flow) (f : Flow) : List Flow := l ++ [⟨nextV l, f.steps⟩]
def putF (l : List Flow) (f : Flow) : List Flow × Bool := bif regOk l then (bif flowOk f then (bif regOk (putL l f) then (putL l f, true) else ([], false)) else ([], false)) else ([], false)

theorem putL_small {l : List Flow} {f : Flow} (hl : smallR l 8) (h5 : l.length ≤ 5) (hf : smallF f 8) : smallR (putL l f) 8 := by
  unfold putL
  refine ⟨by simp; omega, fun g hg => ?_⟩
  rcases List.mem_append.1 hg with h | h
  · exact hl.2 g h
  · rw [List.mem_singleton.1 h]; have k := hf; exact k

theorem e_impl_RegistryPut {N : Nat} {l : List Flow} {f : Flow} (hl : smallR l 8) (h5 : l.length ≤ 5) (hf : smallF f 8) (hN : 20 < N) : m_impl_RegistryPut N l f = some (putF l f) := by
  unfold m_impl_RegistryPut putF
  rw [e_impl_RegistryValid hl (by omega) (by omega), Option.bind_some, e_impl_FlowValid hf (by omega) (by omega)]
  cases regOk l with
  | false => rfl
  | true =>
    cases flowOk f with
    | false => rfl
    | true =>
      simp only [Bool.not_true, cond_false, Option.bind_some, cond_true]
      rw [e_Flow_clone hf (by omega) (by omega), Option.bind_some, e_next, Option.bind_some, e_cloneFlows hl (by omega) (by omega), Option.bind_some, appd_ok (by simp; omega), Option.bind_some]
      have hs := putL_small hl h5 hf
      unfold putL at hs ⊢
      rw [e_impl_RegistryValid hs (by omega) (by omega), Option.bind_some]
      cases regOk (l ++ [⟨nextV l, f.steps⟩]) <;> rfl
theorem e_spec_RegistryPut {N : Nat} {l : List Flow} {f : Flow} (hl : smallR l 8) (h5 : l.length ≤ 5) (hf : smallF f 8) (hN : 20 < N) : m_spec_RegistryPut N l f = some (putF l f) := by
  unfold m_spec_RegistryPut putF
  rw [e_spec_RegistryValid hl (by omega) (by omega), Option.bind_some, e_spec_FlowValid hf (by omega) (by omega)]
  cases regOk l with
  | false => rfl
  | true =>
    cases flowOk f with
    | false => rfl
    | true =>
      simp only [Bool.not_true, cond_false, Option.bind_some, cond_true]
      rw [e_l2Copy hf (by omega) (by omega), Option.bind_some, e_next, Option.bind_some, e_l14Copy hl (by omega) (by omega), Option.bind_some, appd_ok (by simp; omega), Option.bind_some]
      have hs := putL_small hl h5 hf
      unfold putL at hs ⊢
      rw [e_spec_RegistryValid hs (by omega) (by omega), Option.bind_some]
      cases regOk (l ++ [⟨nextV l, f.steps⟩]) <;> rfl

theorem e_DrawRegistryPut {N : Nat} {code : List UInt8} (hN : 10 < N) : ∃ l f, m_spec_DrawRegistryPut N code = some (l, f) ∧ l.length ≤ 5 ∧ smallR l 8 ∧ smallF f 8 := by
  unfold m_spec_DrawRegistryPut
  obtain ⟨l, p, h1, h2, h3, h4⟩ := e_l92Registry (N := N) (cd := code.take 2000) (p := 0) hN (by omega)
  obtain ⟨g, q, k1, k2, k3⟩ := e_l91Flow (N := N) (cd := code.take 2000) (p := p) hN (by omega)
  rw [h1, Option.bind_some]
  simp only
  rw [k1]
  exact ⟨l, g, rfl, h3, ⟨by omega, h4⟩, k3⟩

theorem e_sameFlows_self {N B : Nat} {l : List Flow} (hl : smallR l B) (hN : B < N) : m_laws_sameFlows N l l = some true := by
  have h0 := hl.1
  unfold m_laws_sameFlows
  rw [eqb_true.2 rfl, Bool.not_true, cond_false, all_list (fun _ _ => true) false (fun n k => m_laws_sameFlows_L8 N l l n k) l (fun k => k) N (by omega) ?_ ?_, allIdx_all, List.all_eq_true.2 (fun _ _ => rfl)]
  · rfl
  · rintro n k rfl
    simp only [m_laws_sameFlows_L8]
    rw [ltb_false.2 (by omega)]; rfl
  · intro n k h
    simp only [m_laws_sameFlows_L8]
    rw [ltb_true.2 (by omega), cond_true, List.getElem?_eq_getElem h, Option.bind_some, Option.bind_some, e_sameFlow (hl.2 _ (List.getElem_mem h)) hN, flowEq_true.2 rfl]; rfl

theorem reg_flow {l : List Flow} (h : regOk l = true) {f : Flow} (hf : f ∈ l) : flowOk f = true := by
  unfold regOk at h
  rw [Bool.and_eq_true] at h
  obtain ⟨i, hi, rfl⟩ := List.getElem_of_mem hf
  have := allIdx_true.1 h.1 i hi
  unfold regStep at this
  rw [Bool.and_eq_true] at this
  exact this.1
theorem reg_asc {l : List Flow} (h : regOk l = true) : l.Pairwise fun a b => a.ver < b.ver := by
  unfold regOk at h
  rw [Bool.and_eq_true] at h
  refine adj_pw (R := fun a b : Flow => a.ver < b.ver) (fun h1 h2 => Int.lt_trans h1 h2) fun i hi h0 => ?_
  have := allIdx_true.1 h.1 i hi
  unfold regStep at this
  simp only [Bool.and_eq_true, Nat.zero_add, Bool.or_eq_true, decide_eq_true_eq] at this
  rcases this.2 with h1 | h1
  · omega
  · rw [List.getElem?_eq_getElem (by omega)] at h1
    exact ltb_true.1 h1
theorem reg_inj {l : List Flow} (h : regOk l = true) {i j : Nat} (hi : i < l.length) (hj : j < l.length) (e : l[i].ver = l[j].ver) : i = j := by
  have := List.pairwise_iff_getElem.1 (reg_asc h)
  rcases Nat.lt_trichotomy i j with h1 | h1 | h1
  · have := this i j hi hj h1; omega
  · exact h1
  · have := this j i hj hi h1; omega
theorem sameF_steps {f g : Flow} (hf : flowOk f = true) (hg : flowOk g = true) (e : f.steps = g.steps) : sameF f g = true := by
  unfold sameF
  rw [hf, hg, e, eqb_true.2 rfl]
  simp only [Bool.true_and]
  rw [allIdx_true]
  intro i hi
  simp only [Nat.zero_add, List.getElem?_eq_getElem hi]
  exact (stepEq_true _ _).2 rfl

theorem verAt_has {l : List Flow} {v : Int} {j : Nat} (hj : j < l.length) (e : l[j].ver = v) : ∃ (i : Nat) (h : i < l.length), verAt l v = i ∧ l[i].ver = v := by
  rcases verAt_cases l v with h | h
  · exfalso
    unfold verAt at h
    cases hc : l.findIdx? (fun f => eqb f.ver v) with
    | none =>
      have := List.findIdx?_eq_none_iff.1 hc _ (List.getElem_mem hj)
      rw [eqb_true.2 e] at this
      cases this
    | some i => rw [hc] at h; simp only at h; omega
  · exact h

/-- The law. -/
theorem p_FnPutFind (u0 : List UInt8) : ∃ N, m_laws_FnPutFind N u0 = some true := by
  refine ⟨100, ?_⟩
  unfold m_laws_FnPutFind
  by_cases c0 : ltb 1048576 ((u0.length : Nat) : Int) = true
  · rw [c0, cond_true]
  rw [Bool.not_eq_true] at c0
  rw [c0, cond_false]
  obtain ⟨l, f, h1, h5, hl, hf⟩ := e_DrawRegistryPut (N := 100) (code := u0) (by omega)
  rw [h1, Option.bind_some]
  simp only
  rw [e_impl_RegistryPut hl h5 hf (by omega), Option.bind_some, e_spec_RegistryPut hl h5 hf (by omega), Option.bind_some]
  have hout := putL_small hl h5 hf
  have nilS : smallR ([] : List Flow) 8 := ⟨by simp, by simp⟩
  unfold putF
  cases h2 : regOk l with
  | false => simp only [cond_false, bne_self_eq_false, Bool.not_false, cond_true, beq_self_eq_true]; rw [e_sameFlows_self nilS (by omega)]; rfl
  | true =>
    cases h3 : flowOk f with
    | false => simp only [cond_true, cond_false, bne_self_eq_false, Bool.not_false, beq_self_eq_true]; rw [e_sameFlows_self nilS (by omega)]; rfl
    | true =>
      cases h4 : regOk (putL l f) with
      | false => simp only [cond_true, cond_false, bne_self_eq_false, Bool.not_false, beq_self_eq_true]; rw [e_sameFlows_self nilS (by omega)]; rfl
      | true =>
        simp only [cond_true, cond_false, bne_self_eq_false, Bool.not_true]
        rw [e_sameFlows_self hout (by omega)]
        simp only [Option.bind_some, Bool.not_true, cond_false]
        have hlen : (putL l f).length = l.length + 1 := by unfold putL; simp
        have hlast : (putL l f)[l.length]'(by omega) = ⟨nextV l, f.steps⟩ := by unfold putL; simp
        rw [hlen, show (((l.length + 1 : Nat) : Nat) : Int) - 1 = ((l.length : Nat) : Int) by omega, geti_nat, List.getElem?_eq_getElem (by omega), Option.bind_some, e_impl_RegistryFind hout (by omega) (by omega), Option.bind_some]
        obtain ⟨i, hi, e1, e2⟩ := verAt_has (l := putL l f) (j := l.length) (by omega) rfl
        have hij := reg_inj h4 hi (show l.length < (putL l f).length by omega) e2
        subst hij
        unfold regFind
        rw [h4, e1, ltb_false.2 (by omega)]
        simp only [cond_true, cond_false, Int.toNat_natCast, List.getElem?_eq_getElem hi]
        rw [e_impl_FlowsSame (hout.2 _ (List.getElem_mem hi)) hf (by omega) (by omega), sameF_steps (reg_flow h4 (List.getElem_mem hi)) h3 (by rw [hlast])]
        rfl
end Go.Proofs.Ytlcckcifnpjbpaa
