/- The given statement about laws.FnJournalFrom: for all arguments the law returns true, and what it was given reads as it did. -/
import Derived.Test.YtacecnffggffmaaDoorO
import Derived.Test.YtacecnffggffmaaDoorTie
import Derived.Test.YtacecnffggffmaaDoorCards
import Derived.Test.YtacecnffggffmaaDoorZ
import Derived.Test.YtacecnffggffmaaDoorWA1
import Derived.Test.YtacecnffggffmaaDoorP78
set_option linter.all false
namespace Go.Proofs.YtacecnffggffmaaDoor
open Go.ChangeShapes Go.WideShapes Go.ChangeAt Go.RowKit

set_option maxRecDepth 100000 in
theorem FnJournalFrom_lifted (os : Os) (started : os.Started) (H : Type) (enc : TypeId × Value → H) :
    ReturnsInHanded {} Tryd.checked os 8 .any (fun w args => (Rows.fnJournalFromSpec.pre enc Tryd.prog Tryd.f8 Rows.fnJournalFromRow.domain false w args ∧ laidMetH Tryd.prog Rows.fnJournalFromRow.laid w) ∧ sizedMet enc Tryd.prog Tryd.f8 (OpenSpec.ofChange Rows.fnJournalFromSpec) false w args) (Rows.fnJournalFromSpec.post enc Tryd.prog Tryd.f8 false true false false) := by
  refine returnsInHanded_of_change_andShaped (C := Tryd.checked) (X := fun w _ => laidMetH Tryd.prog Rows.fnJournalFromRow.laid w) (fun _ _ _ hh h => h.of_heap hh) Tryd.own started (by kernel_rfl) Tryd.func8
    (ChangeSpec.witness_shaped (enc := enc) (C := Tryd.checked) (os := os) (X := fun w _ => laidMetH Tryd.prog Rows.fnJournalFromRow.laid w) false (World.laidAll Tryd.prog os Rows.fnJournalFromRow.laid) #[.slice none 0 0] 8 (World.laidAll_os _ _ _)
      (World.shaped_of_ZipB (by kernel_rfl) (by kernel_rfl)) (by kernel_rfl) (by kernel_rfl) (by kernel_rfl)
      (by rw [MakeChecks.laidMetH_plain _ _ _ (by kernel_rfl)]; exact laidMet_laidAll _ (by kernel_rfl) (by kernel_rfl))) ?_
  intro W base args ds gs before hval0 hW hcnd hsz hL hsh
  have hG : globL.rd W [] [] () := glob_of hL hsh
  have hval : ∀ (j : Nat) t v, Tryd.f8.params[j]? = some t → args[j]? = some v → Value.okWide Tryd.prog W .any base t v := hval0
  obtain ⟨p, q, hA0, hV, hbe, hfz, hnd⟩ := id hW
  have hA : DataW.TrodAll enc Tryd.prog W 0 (fun _ => true) true [22] args.toList ds p := hA0
  obtain ⟨v0, d0, rfl, rfl, h0⟩ := trodAll_one hA
  obtain ⟨g1, rfl⟩ := trodVars_gs hV
  have hsz : (DataW.weightsEach Tryd.prog ([22] ++ Rows.fnJournalFromSpec.plain.varTypes Tryd.prog) ([d0] ++ [g1])).all (· ≤ reachBytes) = true := hsz
  have evt : Rows.fnJournalFromSpec.plain.varTypes Tryd.prog = [58] := by kernel_rfl
  rw [evt] at hsz
  simp only [List.append_nil, List.cons_append, List.nil_append, DataW.weightsEach, List.all_append, Bool.and_eq_true] at hsz
  replace hsz := hsz.1
  obtain ⟨a0, c0, x0, rfl, hr0, hs0⟩ := arg_sl (e := 5) opens_bytes (by kernel_rfl) (hval 0 22 v0 rfl rfl) h0 hsz
  obtain ⟨N, hN⟩ := p_FnJournalFrom x0 
  refine Calls.mono (c_laws_FnJournalFrom N x0 true hN W hG hr0) ?_
  rintro e W' ⟨v, rfl, hE, rfl⟩
  exact ⟨_, rfl, law_postV (tb := 4) Tryd.laidOut (by kernel_rfl) (by kernel_rfl) (by kernel_rfl) (fun t ht => by simp [Tryd.params8] at ht; subst ht; exact ⟨by kernel_rfl, by decide +kernel⟩) hW rfl hE⟩

/-- The row. -/
theorem FnJournalFrom_row : Rows.FnJournalFromSaid :=
  OpenClaim.holds_of_wide 8 Tryd.f8 rfl rfl rfl rfl rfl rfl rfl ⟨rfl, rfl, rfl, rfl, rfl⟩ rfl rfl rfl rfl rfl (by kernel_rfl) Tryd.func8 (by kernel_rfl) (of_decide_eq_true (by kernel_rfl))
    (by unfold Func.isWrapper; first | (rw [if_pos (by decide +kernel)]; kernel_rfl) | (rw [if_neg (by decide +kernel)]; exact ⟨rfl, rfl⟩)) (fun os started H enc _ => FnJournalFrom_lifted os started H enc)

/-- The given statement: the row, its variables tied to the program's text. -/
theorem FnJournalFrom_holds : Rows.FnJournalFromCardSaid :=
  Claim7.holds_tied_plain_at .later [] [.data, .data, .data, .data, .sentinel, .sentinel, .data, .pinned] true Rows.fnJournalFromCard.stood.harness true FnJournalFrom_row (fun _ h => by cases h) (by kernel_rfl) (fun _ h => by cases h) fnJournalFrom_row_tie rfl ⟨rfl, rfl⟩ (by kernel_rfl) rfl
    (fun f fn hf hfn => by
      obtain rfl : f = 8 := Option.some.inj ((show Tryd.prog.funcNamed Rows.fnJournalFromRow.func = some 8 by kernel_rfl).symm.trans hf) |>.symm
      obtain rfl : fn = Tryd.f8 := (Option.some.inj (Tryd.func8.symm.trans hfn)).symm
      exact ⟨by kernel_rfl, fun j t ht => by
        rw [Tryd.params8] at ht
        have hm : t ∈ [22] := by simpa using Array.mem_of_getElem? ht
        have hall : ([22].all fun u => !Tryd.prog.wantsStandIn u) = true := by kernel_rfl
        exact (show Tryd.prog.wantsStandIn t = false by simpa using List.all_eq_true.1 hall t hm)⟩)
    (by kernel_rfl)
end Go.Proofs.YtacecnffggffmaaDoor
