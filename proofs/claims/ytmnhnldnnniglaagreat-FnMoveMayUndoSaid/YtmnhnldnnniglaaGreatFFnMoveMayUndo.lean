/- The given statement about laws.FnMoveMayUndo: for all arguments the law returns true, and what it was given reads as it did. -/
import Derived.Test.YtmnhnldnnniglaaGreatO
import Derived.Test.YtmnhnldnnniglaaGreatRows
import Derived.Test.YtmnhnldnnniglaaGreatWD3
import Derived.Test.YtmnhnldnnniglaaGreatP49
set_option linter.all false
namespace Go.Proofs.YtmnhnldnnniglaaGreat
open Go.ChangeShapes Go.WideShapes Go.ChangeAt Go.RowKit

set_option maxRecDepth 100000 in
theorem FnMoveMayUndo_lifted (os : Os) (started : os.Started) (H : Type) (enc : TypeId × Value → H) :
    ReturnsInHanded {} Tryz.checked os 5 .any (Rows.fnMoveMayUndoSpec.pre6 enc Tryz.prog Tryz.f5 Rows.fnMoveMayUndoRow.domain false) (Rows.fnMoveMayUndoSpec.post enc Tryz.prog Tryz.f5 false true false false) := by
  refine returnsInHanded_of_change_sized (C := Tryz.checked) Tryz.own started (by kernel_rfl) Tryz.func5
    (ChangeSpec.witness6 (enc := enc) (C := Tryz.checked) false ⟨#[], #[.slice none 0 0], []⟩ 8 (by kernel_rfl) (by kernel_rfl) (by kernel_rfl) (by kernel_rfl)) ?_
  intro W base args ds gs before hval0 hW hcnd hsz _
  have hval : ∀ (j : Nat) t v, Tryz.f5.params[j]? = some t → args[j]? = some v → Value.okWide Tryz.prog W .any base t v := hval0
  obtain ⟨p, q, hA0, hV, hbe, hfz, hnd⟩ := id hW
  have hA : DataW.TrodAll enc Tryz.prog W 0 (fun _ => true) true [22] args.toList ds p := hA0
  obtain ⟨v0, d0, rfl, rfl, h0⟩ := trodAll_one hA
  obtain ⟨rfl, _⟩ := trodVars_none hV
  have hsz : (DataW.weightsEach Tryz.prog [22] ([d0] ++ [])).all (· ≤ reachBytes) = true := hsz
  simp only [List.append_nil, DataW.weightsEach, List.all_append, Bool.and_eq_true] at hsz
  obtain ⟨a0, c0, x0, rfl, hr0, hs0⟩ := arg_sl (e := 5) opens_bytes (by kernel_rfl) (hval 0 22 v0 rfl rfl) h0 hsz
  obtain ⟨N, hN⟩ := p_FnMoveMayUndo x0 
  refine Calls.mono (c_laws_FnMoveMayUndo N x0 true hN W hr0) ?_
  rintro e W' ⟨v, rfl, hE, rfl⟩
  exact ⟨_, rfl, law_post (tb := 4) Tryz.laidOut rfl (by kernel_rfl) (by kernel_rfl) (fun t ht => by simp [Tryz.params5] at ht; subst ht; exact ⟨by kernel_rfl, by decide +kernel⟩) hW rfl hE⟩

/-- The given statement. -/
theorem FnMoveMayUndo_holds : Rows.FnMoveMayUndoSaid :=
  OpenClaim.holds_of_wide 5 Tryz.f5 rfl rfl rfl rfl rfl rfl rfl ⟨rfl, rfl, rfl, rfl, rfl⟩ rfl rfl rfl rfl rfl (by kernel_rfl) Tryz.func5 (by kernel_rfl) (of_decide_eq_true (by kernel_rfl))
    (by unfold Func.isWrapper; first | (rw [if_pos (by decide +kernel)]; kernel_rfl) | (rw [if_neg (by decide +kernel)]; exact ⟨rfl, rfl⟩)) (fun os started H enc _ => FnMoveMayUndo_lifted os started H enc)
end Go.Proofs.YtmnhnldnnniglaaGreat
