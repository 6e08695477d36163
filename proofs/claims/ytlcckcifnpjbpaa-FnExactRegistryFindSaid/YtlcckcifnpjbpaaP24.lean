/- Exact laws of registries. -/
import Derived.Test.YtlcckcifnpjbpaaP23
set_option linter.all false
namespace Go.Proofs.Ytlcckcifnpjbpaa

theorem putL_smallB {l : List Flow} {f : Flow} {B : Nat} (hl : smallR l B) (hf : smallF f B) : smallR (putL l f) (B + 1) := by
  have up : ∀ g, smallF g B → smallF g (B + 1) := fun g hg => ⟨by have := hg.1; omega, fun s hs => ⟨by have := (hg.2 s hs).1; omega, by have := (hg.2 s hs).2.1; omega, fun z hz => by have := (hg.2 s hs).2.2 z hz; omega⟩⟩
  have := hl.1
  unfold putL
  refine ⟨by simp; omega, fun g hg => ?_⟩
  rcases List.mem_append.1 hg with h | h
  · exact up g (hl.2 g h)
  · rw [List.mem_singleton.1 h]; have k := up f hf; exact k

theorem e_impl_RegistryPutB {N B : Nat} {l : List Flow} {f : Flow} (hl : smallR l B) (hf : smallF f B) (hB : B ≤ 1999999998) (hN : B + 1 < N) : m_impl_RegistryPut N l f = some (putF l f) := by
  have h0 := hl.1
  unfold m_impl_RegistryPut putF
  rw [e_impl_RegistryValid hl (by omega) (by omega), Option.bind_some, e_impl_FlowValid hf (by omega) (by omega)]
  cases regOk l with
  | false => rfl
  | true =>
    cases flowOk f with
    | false => rfl
    | true =>
      simp only [Bool.not_true, cond_false, Option.bind_some, cond_true]
      rw [e_Flow_clone hf (by omega) (by omega), Option.bind_some, e_next, Option.bind_some, e_cloneFlows hl (by omega) (by omega), Option.bind_some, appd_ok (by simp; omega), Option.bind_some]
      have hs := putL_smallB hl hf
      unfold putL at hs ⊢
      rw [e_impl_RegistryValid hs (by omega) (by omega), Option.bind_some]
      cases regOk (l ++ [⟨nextV l, f.steps⟩]) <;> rfl
theorem e_spec_RegistryPutB {N B : Nat} {l : List Flow} {f : Flow} (hl : smallR l B) (hf : smallF f B) (hB : B ≤ 1999999998) (hN : B + 1 < N) : m_spec_RegistryPut N l f = some (putF l f) := by
  have h0 := hl.1
  unfold m_spec_RegistryPut putF
  rw [e_spec_RegistryValid hl (by omega) (by omega), Option.bind_some, e_spec_FlowValid hf (by omega) (by omega)]
  cases regOk l with
  | false => rfl
  | true =>
    cases flowOk f with
    | false => rfl
    | true =>
      simp only [Bool.not_true, cond_false, Option.bind_some, cond_true]
      rw [e_l2Copy hf (by omega) (by omega), Option.bind_some, e_next, Option.bind_some, e_l14Copy hl (by omega) (by omega), Option.bind_some, appd_ok (by simp; omega), Option.bind_some]
      have hs := putL_smallB hl hf
      unfold putL at hs ⊢
      rw [e_spec_RegistryValid hs (by omega) (by omega), Option.bind_some]
      cases regOk (l ++ [⟨nextV l, f.steps⟩]) <;> rfl

theorem reg_small {l : List Flow} (h : regOk l = true) : smallR l 1048576 := by
  have h4 := h
  unfold regOk at h4
  rw [Bool.and_eq_true, leb_true] at h4
  refine ⟨by omega, fun f hf => ?_⟩
  have h8 := flow_small (reg_flow h hf)
  exact ⟨by have := h8.1; omega, fun s hs => ⟨by have := (h8.2 s hs).1; omega, by have := (h8.2 s hs).2.1; omega, fun z hz => by have := (h8.2 s hs).2.2 z hz; omega⟩⟩
theorem put_small (l : List Flow) (f : Flow) : smallR (putF l f).1 1048576 := by
  unfold putF
  cases regOk l with
  | false => exact ⟨by simp, by simp⟩
  | true =>
    cases flowOk f with
    | false => exact ⟨by simp, by simp⟩
    | true =>
      cases h : regOk (putL l f) with
      | false => exact ⟨by simp, by simp⟩
      | true => exact reg_small h
theorem find_small {l : List Flow} {v : Int} (h : smallR l 1048576) : smallF (regFind l v).1 1048576 := by
  unfold regFind
  cases regOk l with
  | false => exact ⟨by simp, by simp⟩
  | true =>
    cases ltb (verAt l v) 0 with
    | true => exact ⟨by simp, by simp⟩
    | false =>
      simp only [cond_true, cond_false]
      cases hg : l[(verAt l v).toNat]? with
      | none => exact ⟨by simp, by simp⟩
      | some f => exact h.2 f (List.mem_of_getElem? hg)

/-- The law. -/
theorem p_FnExactRegistryFind (l : List Flow) (v : Int) (hh : l.length ≤ 140737488351232 ∧ ∀ f ∈ l, szF f) (hv : fits v) : ∃ N, m_laws_FnExactRegistryFind N l v = some true := by
  refine ⟨140737488351232 + 2, ?_⟩
  unfold m_laws_FnExactRegistryFind
  rw [e_szFlowS ⟨hh.1, fun f hf => hugeF_of (hh.2 f hf)⟩ (by omega) (by omega) (by omega), Option.bind_some]
  by_cases hc : gz (wFlows l) 1048576 < 0
  · rw [ltb_true.2 hc]; rfl
  rw [ltb_false.2 (by omega), cond_false]
  have hs : smallR l 1048576 := small_flows (by have := (gz_pos (Int.not_lt.1 hc)).1; omega)
  have ho := find_small (v := v) hs
  have l1 := ho.1
  have b1 := cFlows_bd hs; have b2 := cFlow_bd ho
  have t1 := e_toFlowS (N := 140737488351232 + 2) hs (by omega) (by omega)
  have fs := e_spec_RegistryFind (N := 140737488351232 + 2) (v := v) hs (by omega) (by omega)
  have fi := e_impl_RegistryFind (N := 140737488351232 + 2) (v := v) hs (by omega) (by omega)
  have q1 := e_eqFlowS_self (N := 140737488351232 + 2) hs (by omega)
  have q4 := e_eqFlow_self (N := 140737488351232 + 2) ho (by omega)
  obtain ⟨k1, m1, a1, -, u1, v1⟩ := mh_FlowS (N := 140737488351232 + 2) (k := 1) (by omega) hs (by omega) (by omega) (by omega)
  obtain ⟨k4, m4, a4, d4, u4, v4⟩ := mh_Flow (N := 140737488351232 + 2) (f := (regFind l v).1) (k := 1) (by omega) (by omega) (fun s hs => by have := (ho.2 s hs).2.1; omega) (by omega) (by omega)
  have n1 : ltb k1 0 = false := ltb_false.2 (by omega)
  have n4 : ltb k4 0 = false := ltb_false.2 (by omega)
  simp only [t1, fs, fi, q1, q4, a1, a4, d4, n1, n4, eqb_self, Option.bind_some, Bool.not_true, cond_false, bne_self_eq_false, Ex.go]

/-- The law. -/
theorem p_FnExactRegistryPut (l : List Flow) (f : Flow) (hh : l.length ≤ 140737488351232 ∧ ∀ f ∈ l, szF f) (h2 : szF f) : ∃ N, m_laws_FnExactRegistryPut N l f = some true := by
  refine ⟨140737488351232 + 2, ?_⟩
  unfold m_laws_FnExactRegistryPut
  rw [e_szFlowS ⟨hh.1, fun f hf => hugeF_of (hh.2 f hf)⟩ (by omega) (by omega) (by omega), Option.bind_some]
  by_cases hc : gz (wFlows l) 1048576 < 0
  · rw [ltb_true.2 hc]; rfl
  rw [ltb_false.2 (by omega), cond_false]
  have c1 := gz_pos (Int.not_lt.1 hc)
  rw [e_szFlow (hugeF_of h2) (by omega) (by omega) (by omega), Option.bind_some]
  by_cases hd : gz (wFlow f) (gz (wFlows l) 1048576) < 0
  · rw [ltb_true.2 hd]; rfl
  rw [ltb_false.2 (by omega), cond_false]
  have c2 := gz_pos (Int.not_lt.1 hd)
  have hs : smallR l 1048576 := small_flows (by omega)
  have hf : smallF f 1048576 := small_flow (by omega)
  have ho := put_small l f
  have l1 := ho.1; have l2 := hf.1
  have b1 := cFlows_bd hs; have b2 := cFlow_bd hf; have b3 := cFlows_bd ho
  have t1 := e_toFlowS (N := 140737488351232 + 2) hs (by omega) (by omega)
  have t2 := e_toFlow (N := 140737488351232 + 2) hf (by omega) (by omega)
  have fs := e_spec_RegistryPutB (N := 140737488351232 + 2) hs hf (by omega) (by omega)
  have fi := e_impl_RegistryPutB (N := 140737488351232 + 2) hs hf (by omega) (by omega)
  have q1 := e_eqFlowS_self (N := 140737488351232 + 2) hs (by omega)
  have q2 := e_eqFlow_self (N := 140737488351232 + 2) hf (by omega)
  have q4 := e_eqFlowS_self (N := 140737488351232 + 2) ho (by omega)
  obtain ⟨k1, m1, a1, -, u1, v1⟩ := mh_FlowS (N := 140737488351232 + 2) (k := 1) (by omega) hs (by omega) (by omega) (by omega)
  obtain ⟨k2, m2, a2, -, u2, v2⟩ := mh_Flow (N := 140737488351232 + 2) (f := f) (k := k1) (by omega) (by omega) (fun s hs => by have := (hf.2 s hs).2.1; omega) (by omega) (by omega)
  obtain ⟨k4, m4, a4, d4, u4, v4⟩ := mh_FlowS (N := 140737488351232 + 2) (l := (putF l f).1) (k := 1) (by omega) ho (by omega) (by omega) (by omega)
  have n1 : ltb k2 0 = false := ltb_false.2 (by omega)
  have n4 : ltb k4 0 = false := ltb_false.2 (by omega)
  simp only [t1, t2, fs, fi, q1, q2, q4, a1, a2, a4, d4, n1, n4, eqb_self, Option.bind_some, Bool.not_true, cond_false, bne_self_eq_false, Ex.go]
end Go.Proofs.Ytlcckcifnpjbpaa
