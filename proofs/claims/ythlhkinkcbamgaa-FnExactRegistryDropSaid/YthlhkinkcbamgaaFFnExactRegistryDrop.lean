/- The given statement about laws.FnExactRegistryDrop: for all arguments the law returns true, and what it was given reads as it did. -/
import Derived.Test.YthlhkinkcbamgaaO
import Derived.Test.YthlhkinkcbamgaaRows
import Derived.Test.YthlhkinkcbamgaaWC3
import Derived.Test.YthlhkinkcbamgaaP27
set_option linter.all false
namespace Go.Proofs.Ythlhkinkcbamgaa
open Go.ChangeShapes Go.WideShapes Go.ChangeAt Go.RowKit

set_option maxRecDepth 100000 in
theorem FnExactRegistryDrop_lifted (os : Os) (started : os.Started) (H : Type) (enc : TypeId × Value → H) :
    ReturnsInHanded {} Try.checked os 14 .any (Rows.fnExactRegistryDropSpec.pre6 enc Try.prog Try.f14 Rows.fnExactRegistryDropRow.domain false) (Rows.fnExactRegistryDropSpec.post enc Try.prog Try.f14 false true false false) := by
  refine returnsInHanded_of_change_sized (C := Try.checked) Try.own started (by kernel_rfl) Try.func14
    (ChangeSpec.witness6 (enc := enc) (C := Try.checked) false ⟨#[], #[.slice none 0 0, .int .i64 0, .slice none 0 0], []⟩ 8 (by kernel_rfl) (by kernel_rfl) (by kernel_rfl) (by kernel_rfl)) ?_
  intro W base args ds gs before hval0 hW hcnd hsz _
  have hval : ∀ (j : Nat) t v, Try.f14.params[j]? = some t → args[j]? = some v → Value.okWide Try.prog W .any base t v := hval0
  obtain ⟨p, q, hA0, hV, hbe, hfz, hnd⟩ := id hW
  have hA : DataW.TrodAll enc Try.prog W 0 (fun _ => true) true [66, 3, 45] args.toList ds p := hA0
  obtain ⟨v0, v1, v2, d0, d1, d2, p0, p1, p2, rfl, rfl, hpe, h0, h1, h2⟩ := trodAll_three hA
  obtain ⟨rfl, _⟩ := trodVars_none hV
  have hsz : (DataW.weightsEach Try.prog [66, 3, 45] ([d0, d1, d2] ++ [])).all (· ≤ reachBytes) = true := hsz
  simp only [List.append_nil, DataW.weightsEach, List.all_append, Bool.and_eq_true] at hsz
  obtain ⟨a0, c0, x0, rfl, hr0, hs0⟩ := arg_sl (e := 52) opens_flows (by kernel_rfl) (hval 0 66 v0 rfl rfl) h0 hsz.1
  obtain ⟨x1, rfl, hs1⟩ := arg_int (t := 3) (opens_int (by kernel_rfl)) (by kernel_rfl) (hval 1 3 v1 rfl rfl) h1 hsz.2.1
  obtain ⟨a2, c2, x2, rfl, hr2, hs2⟩ := arg_sl (e := 3) opens_ints (by kernel_rfl) (hval 2 45 v2 rfl rfl) h2 hsz.2.2
  obtain ⟨N, hN⟩ := p_FnExactRegistryDrop x0 x1 x2 hs0 hs1 hs2
  refine Calls.mono (c_laws_FnExactRegistryDrop N x0 x1 x2 true hN W hr0 hr2) ?_
  rintro e W' ⟨v, rfl, hE, rfl⟩
  exact ⟨_, rfl, law_post (tb := 4) Try.laidOut rfl (by kernel_rfl) (by kernel_rfl) (fun t ht => by simp [Try.params14] at ht; rcases ht with rfl | rfl | rfl <;> exact ⟨by kernel_rfl, by decide +kernel⟩) hW rfl hE⟩

/-- The given statement. -/
theorem FnExactRegistryDrop_holds : Rows.FnExactRegistryDropSaid :=
  OpenClaim.holds_of_wide 14 Try.f14 rfl rfl rfl rfl rfl rfl rfl ⟨rfl, rfl, rfl, rfl, rfl⟩ rfl rfl rfl rfl rfl (by kernel_rfl) Try.func14 (by kernel_rfl) (of_decide_eq_true (by kernel_rfl))
    (by unfold Func.isWrapper; first | (rw [if_pos (by decide +kernel)]; kernel_rfl) | (rw [if_neg (by decide +kernel)]; exact ⟨rfl, rfl⟩)) (fun os started H enc _ => FnExactRegistryDrop_lifted os started H enc)
end Go.Proofs.Ythlhkinkcbamgaa
