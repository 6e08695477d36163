/- The given statement about laws.FnExactRegistryFind: for all arguments the law returns true, and what it was given reads as it did. -/
import Derived.Test.YtlcckcifnpjbpaaO
import Derived.Test.YtlcckcifnpjbpaaRows
import Derived.Test.YtlcckcifnpjbpaaWE3
import Derived.Test.YtlcckcifnpjbpaaP24
set_option linter.all false
namespace Go.Proofs.Ytlcckcifnpjbpaa
open Go.ChangeShapes Go.WideShapes Go.ChangeAt Go.RowKit

set_option maxRecDepth 100000 in
theorem FnExactRegistryFind_lifted (os : Os) (started : os.Started) (H : Type) (enc : TypeId × Value → H) :
    ReturnsInHanded {} Try.checked os 8 .any (Rows.fnExactRegistryFindSpec.pre6 enc Try.prog Try.f8 Rows.fnExactRegistryFindRow.domain false) (Rows.fnExactRegistryFindSpec.post enc Try.prog Try.f8 false true false false) := by
  refine returnsInHanded_of_change_sized (C := Try.checked) Try.own started (by kernel_rfl) Try.func8
    (ChangeSpec.witness6 (enc := enc) (C := Try.checked) false ⟨#[], #[.slice none 0 0, .int .i64 0], []⟩ 8 (by kernel_rfl) (by kernel_rfl) (by kernel_rfl) (by kernel_rfl)) ?_
  intro W base args ds gs before hval0 hW hcnd hsz _
  have hval : ∀ (j : Nat) t v, Try.f8.params[j]? = some t → args[j]? = some v → Value.okWide Try.prog W .any base t v := hval0
  obtain ⟨p, q, hA0, hV, hbe, hfz, hnd⟩ := id hW
  have hA : DataW.TrodAll enc Try.prog W 0 (fun _ => true) true [44, 3] args.toList ds p := hA0
  obtain ⟨v0, v1, d0, d1, p0, p1, rfl, rfl, hpe, h0, h1⟩ := trodAll_two hA
  obtain ⟨rfl, _⟩ := trodVars_none hV
  have hsz : (DataW.weightsEach Try.prog [44, 3] ([d0, d1] ++ [])).all (· ≤ reachBytes) = true := hsz
  simp only [List.append_nil, DataW.weightsEach, List.all_append, Bool.and_eq_true] at hsz
  obtain ⟨a0, c0, x0, rfl, hr0, hs0⟩ := arg_sl (e := 52) opens_flows (by kernel_rfl) (hval 0 44 v0 rfl rfl) h0 hsz.1
  obtain ⟨x1, rfl, hs1⟩ := arg_int (t := 3) (opens_int (by kernel_rfl)) (by kernel_rfl) (hval 1 3 v1 rfl rfl) h1 hsz.2
  obtain ⟨N, hN⟩ := p_FnExactRegistryFind x0 x1 hs0 hs1
  refine Calls.mono (c_laws_FnExactRegistryFind N x0 x1 true hN W hr0) ?_
  rintro e W' ⟨v, rfl, hE, rfl⟩
  exact ⟨_, rfl, law_post (tb := 4) Try.laidOut rfl (by kernel_rfl) (by kernel_rfl) (fun t ht => by simp [Try.params8] at ht; rcases ht with rfl | rfl <;> exact ⟨by kernel_rfl, by decide +kernel⟩) hW rfl hE⟩

/-- The given statement. -/
theorem FnExactRegistryFind_holds : Rows.FnExactRegistryFindSaid :=
  OpenClaim.holds_of_wide 8 Try.f8 rfl rfl rfl rfl rfl rfl rfl ⟨rfl, rfl, rfl, rfl, rfl⟩ rfl rfl rfl rfl rfl (by kernel_rfl) Try.func8 (by kernel_rfl) (of_decide_eq_true (by kernel_rfl))
    (by unfold Func.isWrapper; first | (rw [if_pos (by decide +kernel)]; kernel_rfl) | (rw [if_neg (by decide +kernel)]; exact ⟨rfl, rfl⟩)) (fun os started H enc _ => FnExactRegistryFind_lifted os started H enc)
end Go.Proofs.Ytlcckcifnpjbpaa
