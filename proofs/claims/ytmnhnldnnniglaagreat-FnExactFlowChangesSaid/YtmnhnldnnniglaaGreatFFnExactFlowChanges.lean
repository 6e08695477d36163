/- The given statement about laws.FnExactFlowChanges: for all arguments the law returns true, and what it was given reads as it did. -/
import Derived.Test.YtmnhnldnnniglaaGreatO
import Derived.Test.YtmnhnldnnniglaaGreatRows
import Derived.Test.YtmnhnldnnniglaaGreatWC2
import Derived.Test.YtmnhnldnnniglaaGreatP60
set_option linter.all false
namespace Go.Proofs.YtmnhnldnnniglaaGreat
open Go.ChangeShapes Go.WideShapes Go.ChangeAt Go.RowKit

set_option maxRecDepth 100000 in
theorem FnExactFlowChanges_lifted (os : Os) (started : os.Started) (H : Type) (enc : TypeId × Value → H) :
    ReturnsInHanded {} Tryz.checked os 4 .any (Rows.fnExactFlowChangesSpec.pre6 enc Tryz.prog Tryz.f4 Rows.fnExactFlowChangesRow.domain false) (Rows.fnExactFlowChangesSpec.post enc Tryz.prog Tryz.f4 false true false false) := by
  refine returnsInHanded_of_change_sized (C := Tryz.checked) Tryz.own started (by kernel_rfl) Tryz.func4
    (ChangeSpec.witness6 (enc := enc) (C := Tryz.checked) false ⟨#[], #[.agg #[.int .i64 0, .slice none 0 0], .slice none 0 0], []⟩ 8 (by kernel_rfl) (by kernel_rfl) (by kernel_rfl) (by kernel_rfl)) ?_
  intro W base args ds gs before hval0 hW hcnd hsz _
  have hval : ∀ (j : Nat) t v, Tryz.f4.params[j]? = some t → args[j]? = some v → Value.okWide Tryz.prog W .any base t v := hval0
  obtain ⟨p, q, hA0, hV, hbe, hfz, hnd⟩ := id hW
  have hA : DataW.TrodAll enc Tryz.prog W 0 (fun _ => true) true [38, 39] args.toList ds p := hA0
  obtain ⟨v0, v1, d0, d1, p0, p1, rfl, rfl, hpe, h0, h1⟩ := trodAll_two hA
  obtain ⟨rfl, _⟩ := trodVars_none hV
  have hsz : (DataW.weightsEach Tryz.prog [38, 39] ([d0, d1] ++ [])).all (· ≤ reachBytes) = true := hsz
  simp only [List.append_nil, DataW.weightsEach, List.all_append, Bool.and_eq_true] at hsz
  obtain ⟨cs0, x0, rfl, hr0, hs0⟩ := arg_st (fs := fieldsOf Tryz.prog 38) opens_flow (by kernel_rfl) (hval 0 38 v0 rfl rfl) h0 hsz.1
  obtain ⟨b0, q0, rfl, hq0⟩ := flowL_rd hr0
  obtain ⟨a1, c1, x1, rfl, hr1, hs1⟩ := arg_sl (e := 83) opens_changes (by kernel_rfl) (hval 1 39 v1 rfl rfl) h1 hsz.2
  obtain ⟨N, hN⟩ := p_FnExactFlowChanges x0 x1 hs0 hs1
  refine Calls.mono (c_laws_FnExactFlowChanges N x0 x1 true hN W hq0 hr1) ?_
  rintro e W' ⟨v, rfl, hE, rfl⟩
  exact ⟨_, rfl, law_post (tb := 4) Tryz.laidOut rfl (by kernel_rfl) (by kernel_rfl) (fun t ht => by simp [Tryz.params4] at ht; rcases ht with rfl | rfl <;> exact ⟨by kernel_rfl, by decide +kernel⟩) hW rfl hE⟩

/-- The given statement. -/
theorem FnExactFlowChanges_holds : Rows.FnExactFlowChangesSaid :=
  OpenClaim.holds_of_wide 4 Tryz.f4 rfl rfl rfl rfl rfl rfl rfl ⟨rfl, rfl, rfl, rfl, rfl⟩ rfl rfl rfl rfl rfl (by kernel_rfl) Tryz.func4 (by kernel_rfl) (of_decide_eq_true (by kernel_rfl))
    (by unfold Func.isWrapper; first | (rw [if_pos (by decide +kernel)]; kernel_rfl) | (rw [if_neg (by decide +kernel)]; exact ⟨rfl, rfl⟩)) (fun os started H enc _ => FnExactFlowChanges_lifted os started H enc)
end Go.Proofs.YtmnhnldnnniglaaGreat
