/- The given statement about laws.FnExactRegistryPut: for all arguments the law returns true, and what it was given reads as it did. -/
import Derived.Test.YtlcckcifnpjbpaaO
import Derived.Test.YtlcckcifnpjbpaaRows
import Derived.Test.YtlcckcifnpjbpaaWE3
import Derived.Test.YtlcckcifnpjbpaaP24
set_option linter.all false
namespace Go.Proofs.Ytlcckcifnpjbpaa
open Go.ChangeShapes Go.WideShapes Go.ChangeAt Go.RowKit

set_option maxRecDepth 100000 in
theorem FnExactRegistryPut_lifted (os : Os) (started : os.Started) (H : Type) (enc : TypeId × Value → H) :
    ReturnsInHanded {} Try.checked os 9 .any (Rows.fnExactRegistryPutSpec.pre6 enc Try.prog Try.f9 Rows.fnExactRegistryPutRow.domain false) (Rows.fnExactRegistryPutSpec.post enc Try.prog Try.f9 false true false false) := by
  refine returnsInHanded_of_change_sized (C := Try.checked) Try.own started (by kernel_rfl) Try.func9
    (ChangeSpec.witness6 (enc := enc) (C := Try.checked) false ⟨#[], #[.slice none 0 0, .agg #[.int .i64 0, .slice none 0 0]], []⟩ 8 (by kernel_rfl) (by kernel_rfl) (by kernel_rfl) (by kernel_rfl)) ?_
  intro W base args ds gs before hval0 hW hcnd hsz _
  have hval : ∀ (j : Nat) t v, Try.f9.params[j]? = some t → args[j]? = some v → Value.okWide Try.prog W .any base t v := hval0
  obtain ⟨p, q, hA0, hV, hbe, hfz, hnd⟩ := id hW
  have hA : DataW.TrodAll enc Try.prog W 0 (fun _ => true) true [44, 52] args.toList ds p := hA0
  obtain ⟨v0, v1, d0, d1, p0, p1, rfl, rfl, hpe, h0, h1⟩ := trodAll_two hA
  obtain ⟨rfl, _⟩ := trodVars_none hV
  have hsz : (DataW.weightsEach Try.prog [44, 52] ([d0, d1] ++ [])).all (· ≤ reachBytes) = true := hsz
  simp only [List.append_nil, DataW.weightsEach, List.all_append, Bool.and_eq_true] at hsz
  obtain ⟨a0, c0, x0, rfl, hr0, hs0⟩ := arg_sl (e := 52) opens_flows (by kernel_rfl) (hval 0 44 v0 rfl rfl) h0 hsz.1
  obtain ⟨cs1, x1, rfl, hr1, hs1⟩ := arg_st (fs := fieldsOf Try.prog 52) opens_flow (by kernel_rfl) (hval 1 52 v1 rfl rfl) h1 hsz.2
  obtain ⟨b1, q1, rfl, hq1⟩ := flowL_rd hr1
  obtain ⟨N, hN⟩ := p_FnExactRegistryPut x0 x1 hs0 hs1
  refine Calls.mono (c_laws_FnExactRegistryPut N x0 x1 true hN W hr0 hq1) ?_
  rintro e W' ⟨v, rfl, hE, rfl⟩
  exact ⟨_, rfl, law_post (tb := 4) Try.laidOut rfl (by kernel_rfl) (by kernel_rfl) (fun t ht => by simp [Try.params9] at ht; rcases ht with rfl | rfl <;> exact ⟨by kernel_rfl, by decide +kernel⟩) hW rfl hE⟩

/-- The given statement. -/
theorem FnExactRegistryPut_holds : Rows.FnExactRegistryPutSaid :=
  OpenClaim.holds_of_wide 9 Try.f9 rfl rfl rfl rfl rfl rfl rfl ⟨rfl, rfl, rfl, rfl, rfl⟩ rfl rfl rfl rfl rfl (by kernel_rfl) Try.func9 (by kernel_rfl) (of_decide_eq_true (by kernel_rfl))
    (by unfold Func.isWrapper; first | (rw [if_pos (by decide +kernel)]; kernel_rfl) | (rw [if_neg (by decide +kernel)]; exact ⟨rfl, rfl⟩)) (fun os started H enc _ => FnExactRegistryPut_lifted os started H enc)
end Go.Proofs.Ytlcckcifnpjbpaa
