/- The given statement about laws.FnExactMoveMay: for all arguments the law returns true, and what it was given reads as it did. -/
import Derived.Test.YthmifmpllgofkaaGreatO
import Derived.Test.YthmifmpllgofkaaGreatRows
import Derived.Test.YthmifmpllgofkaaGreatWC2
import Derived.Test.YthmifmpllgofkaaGreatP48
set_option linter.all false
namespace Go.Proofs.YthmifmpllgofkaaGreat
open Go.ChangeShapes Go.WideShapes Go.ChangeAt Go.RowKit

set_option maxRecDepth 100000 in
theorem FnExactMoveMay_lifted (os : Os) (started : os.Started) (H : Type) (enc : TypeId × Value → H) :
    ReturnsInHanded {} Tryz.checked os 5 .any (Rows.fnExactMoveMaySpec.pre6 enc Tryz.prog Tryz.f5 Rows.fnExactMoveMayRow.domain false) (Rows.fnExactMoveMaySpec.post enc Tryz.prog Tryz.f5 false true false false) := by
  refine returnsInHanded_of_change_sized (C := Tryz.checked) Tryz.own started (by kernel_rfl) Tryz.func5
    (ChangeSpec.witness6 (enc := enc) (C := Tryz.checked) false ⟨#[], #[.agg #[.int .i64 0, .slice none 0 0], .agg #[.int .i64 0, .string ⟨#[]⟩, .slice none 0 0, .bool false], .agg #[.int .i64 0, .slice none 0 0]], []⟩ 8 (by kernel_rfl) (by kernel_rfl) (by kernel_rfl) (by kernel_rfl)) ?_
  intro W base args ds gs before hval0 hW hcnd hsz _
  have hval : ∀ (j : Nat) t v, Tryz.f5.params[j]? = some t → args[j]? = some v → Value.okWide Tryz.prog W .any base t v := hval0
  obtain ⟨p, q, hA0, hV, hbe, hfz, hnd⟩ := id hW
  have hA : DataW.TrodAll enc Tryz.prog W 0 (fun _ => true) true [44, 47, 57] args.toList ds p := hA0
  obtain ⟨v0, v1, v2, d0, d1, d2, p0, p1, p2, rfl, rfl, hpe, h0, h1, h2⟩ := trodAll_three hA
  obtain ⟨rfl, _⟩ := trodVars_none hV
  have hsz : (DataW.weightsEach Tryz.prog [44, 47, 57] ([d0, d1, d2] ++ [])).all (· ≤ reachBytes) = true := hsz
  simp only [List.append_nil, DataW.weightsEach, List.all_append, Bool.and_eq_true] at hsz
  obtain ⟨cs0, x0, rfl, hr0, hs0⟩ := arg_st (fs := fieldsOf Tryz.prog 44) opens_flow (by kernel_rfl) (hval 0 44 v0 rfl rfl) h0 hsz.1
  obtain ⟨b0, q0, rfl, hq0⟩ := flowL_rd hr0
  obtain ⟨cs1, x1, rfl, hr1, hs1⟩ := arg_st (fs := fieldsOf Tryz.prog 47) opens_change (by kernel_rfl) (hval 1 47 v1 rfl rfl) h1 hsz.2.1
  obtain ⟨b1, q1, rfl, hq1⟩ := changeL_rd hr1
  obtain ⟨cs2, x2, rfl, hr2, hs2⟩ := arg_st (fs := fieldsOf Tryz.prog 57) opens_run (by kernel_rfl) (hval 2 57 v2 rfl rfl) h2 hsz.2.2
  obtain ⟨b2, q2, rfl, hq2⟩ := runL_rd hr2
  obtain ⟨N, hN⟩ := p_FnExactMoveMay x0 x1 x2 hs0 hs1 hs2
  refine Calls.mono (c_laws_FnExactMoveMay N x0 x1 x2 true hN W hq0 hq1 hq2) ?_
  rintro e W' ⟨v, rfl, hE, rfl⟩
  exact ⟨_, rfl, law_post (tb := 4) Tryz.laidOut rfl (by kernel_rfl) (by kernel_rfl) (fun t ht => by simp [Tryz.params5] at ht; rcases ht with rfl | rfl | rfl <;> exact ⟨by kernel_rfl, by decide +kernel⟩) hW rfl hE⟩

/-- The given statement. -/
theorem FnExactMoveMay_holds : Rows.FnExactMoveMaySaid :=
  OpenClaim.holds_of_wide 5 Tryz.f5 rfl rfl rfl rfl rfl rfl rfl ⟨rfl, rfl, rfl, rfl, rfl⟩ rfl rfl rfl rfl rfl (by kernel_rfl) Tryz.func5 (by kernel_rfl) (of_decide_eq_true (by kernel_rfl))
    (by unfold Func.isWrapper; first | (rw [if_pos (by decide +kernel)]; kernel_rfl) | (rw [if_neg (by decide +kernel)]; exact ⟨rfl, rfl⟩)) (fun os started H enc _ => FnExactMoveMay_lifted os started H enc)
end Go.Proofs.YthmifmpllgofkaaGreat
