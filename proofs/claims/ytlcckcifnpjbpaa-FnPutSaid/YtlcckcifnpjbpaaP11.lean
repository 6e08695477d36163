/- The law: a new flow is the newest one. -/
import Derived.Test.YtlcckcifnpjbpaaP10
set_option linter.all false
namespace Go.Proofs.Ytlcckcifnpjbpaa

/-- The law. -/
theorem p_FnPut (u0 : List UInt8) : ∃ N, m_laws_FnPut N u0 = some true := by
  refine ⟨100, ?_⟩
  unfold m_laws_FnPut
  by_cases c0 : ltb 1048576 ((u0.length : Nat) : Int) = true
  · rw [c0, cond_true]
  rw [Bool.not_eq_true] at c0
  rw [c0, cond_false]
  obtain ⟨l, f, h1, h5, hl, hf⟩ := e_DrawRegistryPut (N := 100) (code := u0) (by omega)
  rw [h1, Option.bind_some]
  simp only
  rw [e_impl_RegistryPut hl h5 hf (by omega), Option.bind_some, e_spec_RegistryPut hl h5 hf (by omega), Option.bind_some]
  have hout := putL_small hl h5 hf
  have nilS : smallR ([] : List Flow) 8 := ⟨by simp, by simp⟩
  unfold putF
  cases h2 : regOk l with
  | false => simp only [cond_false, bne_self_eq_false, Bool.not_false, cond_true, beq_self_eq_true]; rw [e_sameFlows_self nilS (by omega)]; rfl
  | true =>
    cases h3 : flowOk f with
    | false => simp only [cond_true, cond_false, bne_self_eq_false, Bool.not_false, beq_self_eq_true]; rw [e_sameFlows_self nilS (by omega)]; rfl
    | true =>
      cases h4 : regOk (putL l f) with
      | false => simp only [cond_true, cond_false, bne_self_eq_false, Bool.not_false, beq_self_eq_true]; rw [e_sameFlows_self nilS (by omega)]; rfl
      | true =>
        simp only [cond_true, cond_false, bne_self_eq_false, Bool.not_true]
        rw [e_sameFlows_self hout (by omega)]
        simp only [Option.bind_some, Bool.not_true, cond_false]
        have hlen : (putL l f).length = l.length + 1 := by unfold putL; simp
        have hlast : (putL l f)[l.length]'(by omega) = ⟨nextV l, f.steps⟩ := by unfold putL; simp
        have htake : (putL l f).take l.length = l := by unfold putL; simp
        rw [e_next, Option.bind_some, e_impl_RegistryValid hout (by omega) (by omega), Option.bind_some, h4, cond_true, lsz_ok (by omega), Option.bind_some, hlen, eqb_true.2 (by omega), cond_true, List.getElem?_eq_getElem (by omega), Option.bind_some, hlast, eqb_true.2 rfl, cond_true]
        have hm : (putL l f)[l.length]'(by omega) ∈ putL l f := List.getElem_mem _
        rw [hlast] at hm
        rw [e_impl_FlowsSame (hout.2 _ hm) hf (by omega) (by omega), sameF_steps (reg_flow h4 hm) h3 rfl, Option.bind_some, cond_true, slTo_nat (by omega), Option.bind_some, htake, e_sameFlows_self hl (by omega)]
        rfl
end Go.Proofs.Ytlcckcifnpjbpaa
