/- The laws of one change. -/
import Derived.Test.YthmifmpllgofkaaP44
set_option linter.all false
namespace Go.Proofs.Ythmifmpllgofkaa

/-- The law. -/
theorem p_FnChange (u0 : List UInt8) : ∃ N, m_laws_FnChange N u0 = some true := by
  refine ⟨2000000, ?_⟩
  unfold m_laws_FnChange
  refine begin1 ?_
  obtain ⟨f, c, h1, hf, hc⟩ := e_DrawFlowChange (N := 2000000) (code := u0) (by omega)
  obtain ⟨fi, fs, sr⟩ := ch_begin hf hc
  cases hb : (chF f c).2 with
  | false => simp only [h1, fi, fs, sr, hb, Option.bind_some, bne_self_eq_false, beq_self_eq_true, cond_true, cond_false, Bool.not_true, Bool.not_false]
  | true =>
    obtain ⟨o1, o2, st, h3, h4, h5⟩ := ch_cases hb
    have ha := flow_ascK o1
    have hl := hf.1
    rw [h5] at fi fs sr
    have hv := e_impl_FlowValid (N := 2000000) (flow_small h4) (by omega) (by omega)
    rw [h4] at hv
    have hver := flow_verB o1
    have hj : ((bif eqb c.kind 1 then (lsz f.steps.length).bind fun v59_ => some (((f.steps.length : Nat) : Int) + 1) else (bif eqb c.kind 2 then some (((f.steps.length : Nat) : Int) - 1) else some ((f.steps.length : Nat) : Int))) : Option Int) = some ((st.length : Nat) : Int) := by
      rcases chSteps_cases h3 with ⟨k, hh, rfl⟩ | ⟨k, hh, rfl⟩ | ⟨k, hh, rfl⟩ | ⟨k, hh, rfl⟩
      · rw [k, eqb_true.2 rfl, cond_true, lsz, if_pos (by omega), Option.bind_some, with_new hh]
        simp
      · rw [k, eqb_false.2 (by omega), cond_false, eqb_true.2 rfl, cond_true]
        have := without_len ha hh
        congr 1
        omega
      · rw [k, eqb_false.2 (by omega), cond_false, eqb_false.2 (by omega), cond_false, with_old (s := ⟨c.step.name, c.step.after, (stepOf f.steps c.step.name).undo⟩) ha hh]
      · rw [k, eqb_false.2 (by omega), cond_false, eqb_false.2 (by omega), cond_false, with_old (s := ⟨c.step.name, (stepOf f.steps c.step.name).after, c.step.undo⟩) ha hh]
    have e1 : eqb (f.ver + 1) (w64 (f.ver + 1)) = true := eqb_true.2 (w64_id (by omega)).symm
    have e2 : eqb ((st.length : Nat) : Int) ((st.length : Nat) : Int) = true := eqb_true.2 rfl
    simp only [h1, fi, fs, sr, hj, hv, e1, e2, Option.bind_some, bne_self_eq_false, beq_self_eq_true, cond_true, cond_false, Bool.not_true, Bool.not_false]

/-- The law. -/
theorem p_FnChangeStep (u0 : List UInt8) : ∃ N, m_laws_FnChangeStep N u0 = some true := by
  refine ⟨2000000, ?_⟩
  unfold m_laws_FnChangeStep
  refine begin1 ?_
  obtain ⟨f, c, h1, hf, hc⟩ := e_DrawFlowChange (N := 2000000) (code := u0) (by omega)
  obtain ⟨fi, fs, sr⟩ := ch_begin hf hc
  cases hb : (chF f c).2 with
  | false => simp only [h1, fi, fs, sr, hb, Option.bind_some, bne_self_eq_false, beq_self_eq_true, cond_true, cond_false, Bool.not_true, Bool.not_false]
  | true =>
    obtain ⟨o1, o2, st, h3, h4, h5⟩ := ch_cases hb
    have ha := flow_ascK o1
    have hl := hf.1
    have hc2 := hc.2.1
    rw [h5] at fi fs sr
    have e11 : eqb (1 : Int) 1 = true := eqb_true.2 rfl
    have e21 : eqb (2 : Int) 1 = false := eqb_false.2 (by omega)
    have e22 : eqb (2 : Int) 2 = true := eqb_true.2 rfl
    have e31 : eqb (3 : Int) 1 = false := eqb_false.2 (by omega)
    have e32 : eqb (3 : Int) 2 = false := eqb_false.2 (by omega)
    have e33 : eqb (3 : Int) 3 = true := eqb_true.2 rfl
    have e41 : eqb (4 : Int) 1 = false := eqb_false.2 (by omega)
    have e42 : eqb (4 : Int) 2 = false := eqb_false.2 (by omega)
    have e43 : eqb (4 : Int) 3 = false := eqb_false.2 (by omega)
    rcases chSteps_cases h3 with ⟨k, hh, rfl⟩ | ⟨k, hh, rfl⟩ | ⟨k, hh, rfl⟩ | ⟨k, hh, rfl⟩
    · have hf2 := find_in (N := 2000000) h4 (s := c.step) (with_mem.2 (.inl rfl)) rfl (by omega)
      have ss : m_laws_sameStep 2000000 c.step c.step = some true := by rw [e_sameStep (by omega), (stepEqB_true _ _).2 rfl]
      simp only [h1, fi, fs, sr, k, hf2, ss, e11, Option.bind_some, bne_self_eq_false, beq_self_eq_true, cond_true, cond_false, Bool.not_true, Bool.not_false]
    · have hf2 := find_out (N := 2000000) h4 without_has (by omega)
      simp only [h1, fi, fs, sr, k, hf2, e21, e22, Option.bind_some, bne_self_eq_false, beq_self_eq_true, cond_true, cond_false, Bool.not_true, Bool.not_false]
    · have hf2 := find_in (N := 2000000) h4 (s := ⟨c.step.name, c.step.after, (stepOf f.steps c.step.name).undo⟩) (with_mem.2 (.inl rfl)) rfl (by omega)
      simp only at hf2
      have ss : m_laws_sameTexts 2000000 c.step.after c.step.after = some true := by rw [e_sameTexts (by omega), decide_eq_true rfl]
      simp only [h1, fi, fs, sr, k, hf2, ss, e31, e32, e33, Option.bind_some, bne_self_eq_false, beq_self_eq_true, cond_true, cond_false, Bool.not_true, Bool.not_false]
    · have hf2 := find_in (N := 2000000) h4 (s := ⟨c.step.name, (stepOf f.steps c.step.name).after, c.step.undo⟩) (with_mem.2 (.inl rfl)) rfl (by omega)
      simp only at hf2
      simp only [h1, fi, fs, sr, k, hf2, e41, e42, e43, Option.bind_some, bne_self_eq_false, beq_self_eq_true, cond_true, cond_false, Bool.not_true, Bool.not_false]

/-- The law. -/
theorem p_FnChangeOthers (u0 : List UInt8) : ∃ N, m_laws_FnChangeOthers N u0 = some true := by
  refine ⟨2000000, ?_⟩
  unfold m_laws_FnChangeOthers
  refine begin1 ?_
  obtain ⟨f, c, h1, hf, hc⟩ := e_DrawFlowChange (N := 2000000) (code := u0) (by omega)
  obtain ⟨fi, fs, sr⟩ := ch_begin hf hc
  cases hb : (chF f c).2 with
  | false => simp only [h1, fi, fs, sr, hb, Option.bind_some, bne_self_eq_false, beq_self_eq_true, cond_true, cond_false, Bool.not_true, Bool.not_false]
  | true =>
    obtain ⟨o1, o2, st, h3, h4, h5⟩ := ch_cases hb
    have ha := flow_ascK o1
    have hl := hf.1
    rw [h5] at fi fs sr
    have loop : m_laws_FnChangeOthers_L15 2000000 (f, c) (⟨f.ver + 1, st⟩, true) 2000000 0 = some (.brk f.steps.length) := by
      rw [all_list (fun _ _ => true) false (fun n k => m_laws_FnChangeOthers_L15 2000000 (f, c) (⟨f.ver + 1, st⟩, true) n k) f.steps (fun k => k) 2000000 (by omega) ?_ ?_]
      · rw [allIdx_true.2 (fun _ _ => rfl)]; rfl
      · rintro n k rfl
        simp only [m_laws_FnChangeOthers_L15]
        rw [ltb_false.2 (by omega)]; rfl
      · intro n k h
        have hs := List.getElem_mem h
        have hs4 := (hf.2 _ hs).2.1
        simp only [m_laws_FnChangeOthers_L15]
        rw [ltb_true.2 (by omega), cond_true, List.getElem?_eq_getElem h, Option.bind_some]
        cases hn : seq f.steps[k].name c.step.name with
        | true =>
          obtain ⟨x, hx⟩ := e_FlowFind (N := 2000000) (s := f.steps[k].name) (flow_small h4) (by omega) (by omega) h4
          rw [hx]; rfl
        | false =>
          have hne := seq_false.1 hn
          have same : ∀ l : List Str, l.length ≤ 8 → m_laws_sameTexts 2000000 l l = some true := fun l hl => by rw [e_sameTexts (by omega), decide_eq_true rfl]
          have plain : f.steps[k] ∈ st → eqb c.kind 2 = false → _ := fun hm hk => by
            have := find_in (N := 2000000) h4 (s := f.steps[k]) hm rfl (by omega)
            exact And.intro this hk
          have go1 : f.steps[k] ∈ st → eqb c.kind 2 = false → ((m_impl_FlowFind 2000000 (⟨f.ver + 1, st⟩ : Flow) f.steps[k].name).bind fun x70 => (bif false then m_laws_FnChangeOthers_L15 2000000 (f, c) (⟨f.ver + 1, st⟩, true) n (k + 1)
 else (bif !x70.2 then some (Ex.ret false)
 else (bif x70.1.undo != f.steps[k].undo then some (Ex.ret false)
 else (bif !(eqb c.kind 2) then (m_laws_sameTexts 2000000 x70.1.after f.steps[k].after).bind fun x105 => (bif !x105 then some (Ex.ret false)
 else m_laws_FnChangeOthers_L15 2000000 (f, c) (⟨f.ver + 1, st⟩, true) n (k + 1))
 else (m_laws_placeOf 2000000 f.steps[k].after c.step.name).bind fun x97 => (bif ltb x97 0 then (m_laws_sameTexts 2000000 x70.1.after f.steps[k].after).bind fun x105 => (bif !x105 then some (Ex.ret false)
 else m_laws_FnChangeOthers_L15 2000000 (f, c) (⟨f.ver + 1, st⟩, true) n (k + 1))
 else m_laws_FnChangeOthers_L15 2000000 (f, c) (⟨f.ver + 1, st⟩, true) n (k + 1))))))) = m_laws_FnChangeOthers_L15 2000000 (f, c) (⟨f.ver + 1, st⟩, true) n (k + 1) := fun hm hk => by
            rw [find_in (N := 2000000) h4 (s := f.steps[k]) hm rfl (by omega), hk]
            simp only [Option.bind_some, Bool.not_true, cond_false, bne_self_eq_false, Bool.not_false, cond_true]
            rw [same _ hs4]; rfl
          simp only [cond_true]
          rcases chSteps_cases h3 with ⟨kk, hh, e⟩ | ⟨kk, hh, e⟩ | ⟨kk, hh, e⟩ | ⟨kk, hh, e⟩
          · exact go1 (by rw [e]; exact with_other hs hne) (eqb_false.2 (by omega))
          · rw [find_in (N := 2000000) h4 (s := dropA c.step.name (stepOf f.steps c.step.name).after f.steps[k]) (by simp only [e]; exact without_other hs hne) (drop_name _) (by omega), kk, eqb_true.2 rfl]
            simp only [Option.bind_some, Bool.not_true, cond_false, drop_undo, bne_self_eq_false]
            rw [e_placeOf (by omega), Option.bind_some, hasB_neg]
            cases hp : hasB f.steps[k].after c.step.name with
            | true => rfl
            | false =>
              rw [drop_not hp, same _ hs4]; rfl
          · exact go1 (by rw [e]; exact with_other hs hne) (eqb_false.2 (by omega))
          · exact go1 (by rw [e]; exact with_other hs hne) (eqb_false.2 (by omega))
    simp only [h1, fi, fs, sr, loop, Option.bind_some, bne_self_eq_false, beq_self_eq_true, cond_true, cond_false, Bool.not_true, Bool.not_false, Ex.go]

/-- The law. -/
theorem p_FnChangeAddDrop (u0 : List UInt8) : ∃ N, m_laws_FnChangeAddDrop N u0 = some true := by
  refine ⟨2000000, ?_⟩
  unfold m_laws_FnChangeAddDrop
  refine begin1 ?_
  obtain ⟨f, c, h1, hf, hc⟩ := e_DrawFlowChange (N := 2000000) (code := u0) (by omega)
  obtain ⟨fi, fs, sr⟩ := ch_begin hf hc
  cases hb : (chF f c).2 with
  | false => simp only [h1, fi, fs, sr, hb, Option.bind_some, bne_self_eq_false, beq_self_eq_true, cond_true, cond_false, Bool.not_true, Bool.not_false]
  | true =>
    obtain ⟨o1, o2, st, h3, h4, h5⟩ := ch_cases hb
    have ha := flow_ascK o1
    have hver := flow_verB o1
    rw [h5] at fi fs sr
    cases hk : eqb c.kind 1 with
    | false => simp only [h1, fi, fs, sr, hk, Option.bind_some, bne_self_eq_false, beq_self_eq_true, cond_true, cond_false, Bool.not_true, Bool.not_false]
    | true =>
      have hk1 := eqb_true.1 hk
      rcases chSteps_cases h3 with ⟨kk, hh, rfl⟩ | ⟨kk, hh, rfl⟩ | ⟨kk, hh, rfl⟩ | ⟨kk, hh, rfl⟩
      rotate_left
      · omega
      · omega
      · omega
      have hs : chSteps (withS f.steps c.step) ⟨2, ⟨c.step.name, [], false⟩⟩ = some f.steps := by
        unfold chSteps
        simp only
        rw [with_has, eqb_false.2 (by omega), eqb_true.2 rfl]
        simp only [Bool.false_and, cond_false, Bool.and_self, cond_true]
        rw [with_without o1 hh]
      have fo : m_impl_FlowChange 2000000 ⟨f.ver + 1, withS f.steps c.step⟩ ⟨2, ⟨c.step.name, [], false⟩⟩ = some (chF ⟨f.ver + 1, withS f.steps c.step⟩ ⟨2, ⟨c.step.name, [], false⟩⟩) := e_impl_FlowChange (B := 8) (flow_small h4) ⟨hc.1, by simp, by simp⟩ (by omega) (by omega) (by omega)
      rw [chF_eq h4 (stepOk_bare (stepOk_name o2)) hs] at fo
      simp only at fo
      cases hv : flowOk ⟨f.ver + 1 + 1, f.steps⟩ with
      | true =>
        rw [hv] at fo
        have ss : m_laws_sameSteps 2000000 f.steps f.steps = some true := by
          have sf := flow_small o1
          rw [e_sameSteps (by have := sf.1; omega) (fun s hs => by have := (sf.2 s hs).2.1; omega), stepsEq_true.2 rfl]
        simp only [h1, fi, fs, sr, hk, fo, ss, Option.bind_some, bne_self_eq_false, beq_self_eq_true, cond_true, cond_false, Bool.not_true, Bool.not_false]
      | false =>
        rw [hv] at fo
        have e99 : eqb (f.ver + 1) 99 = true := eqb_true.2 (by
          have hv2 := flow_verB h4
          simp only at hv2
          by_cases h9 : f.ver + 1 = 99
          · exact h9
          · rw [flow_at_ver o1 (by omega) (by omega)] at hv; cases hv)
        simp only [h1, fi, fs, sr, hk, fo, e99, Option.bind_some, bne_self_eq_false, beq_self_eq_true, cond_true, cond_false, Bool.not_true, Bool.not_false]

/-- The law. -/
theorem p_FnChangeUndoBack (u0 : List UInt8) : ∃ N, m_laws_FnChangeUndoBack N u0 = some true := by
  refine ⟨2000000, ?_⟩
  unfold m_laws_FnChangeUndoBack
  refine begin1 ?_
  obtain ⟨f, c, h1, hf, hc⟩ := e_DrawFlowChange (N := 2000000) (code := u0) (by omega)
  obtain ⟨fi, fs, sr⟩ := ch_begin hf hc
  cases hb : (chF f c).2 with
  | false => simp only [h1, fi, fs, sr, hb, Option.bind_some, bne_self_eq_false, beq_self_eq_true, cond_true, cond_false, Bool.not_true, Bool.not_false]
  | true =>
    obtain ⟨o1, o2, st, h3, h4, h5⟩ := ch_cases hb
    have ha := flow_ascK o1
    have hver := flow_verB o1
    rw [h5] at fi fs sr
    cases hk : eqb c.kind 4 with
    | false => simp only [h1, fi, fs, sr, hk, Option.bind_some, bne_self_eq_false, beq_self_eq_true, cond_true, cond_false, Bool.not_true, Bool.not_false]
    | true =>
      have hk1 := eqb_true.1 hk
      rcases chSteps_cases h3 with ⟨kk, hh, rfl⟩ | ⟨kk, hh, rfl⟩ | ⟨kk, hh, rfl⟩ | ⟨kk, hh, rfl⟩
      · omega
      · omega
      · omega
      obtain ⟨hin, hnm⟩ := stepOf_in hh
      have ff := find_in (N := 2000000) o1 hin hnm (by omega)
      generalize hsd : stepOf f.steps c.step.name = s at *
      have hs : chSteps (withS f.steps ⟨c.step.name, s.after, c.step.undo⟩) ⟨4, ⟨s.name, [], s.undo⟩⟩ = some f.steps := by
        have e0 : hasS (withS f.steps ⟨c.step.name, s.after, c.step.undo⟩) s.name = true := has_iff.2 ⟨⟨c.step.name, s.after, c.step.undo⟩, with_mem.2 (.inl rfl), hnm.symm⟩
        have e1 : stepOf (withS f.steps ⟨c.step.name, s.after, c.step.undo⟩) s.name = ⟨c.step.name, s.after, c.step.undo⟩ := stepOf_eq (with_asc ha) (with_mem.2 (.inl rfl)) hnm.symm
        unfold chSteps
        simp only
        rw [e0, e1, eqb_false.2 (by omega), eqb_false.2 (by omega), eqb_false.2 (by omega), eqb_true.2 rfl]
        simp only [Bool.false_and, cond_false, Bool.and_self, cond_true]
        exact congrArg some (with_with ha hin hnm.symm)
      have fo : m_impl_FlowChange 2000000 ⟨f.ver + 1, withS f.steps ⟨c.step.name, s.after, c.step.undo⟩⟩ ⟨4, ⟨s.name, [], s.undo⟩⟩ = some (chF ⟨f.ver + 1, withS f.steps ⟨c.step.name, s.after, c.step.undo⟩⟩ ⟨4, ⟨s.name, [], s.undo⟩⟩) := e_impl_FlowChange (B := 8) (flow_small h4) ⟨by rw [hnm]; exact hc.1, by simp, by simp⟩ (by omega) (by omega) (by omega)
      rw [chF_eq h4 (stepOk_bare (by rw [hnm]; exact stepOk_name o2)) hs] at fo
      simp only at fo
      cases hv : flowOk ⟨f.ver + 1 + 1, f.steps⟩ with
      | true =>
        rw [hv] at fo
        have ss : m_laws_sameSteps 2000000 f.steps f.steps = some true := by
          have sf := flow_small o1
          rw [e_sameSteps (by have := sf.1; omega) (fun s hs => by have := (sf.2 s hs).2.1; omega), stepsEq_true.2 rfl]
        simp only [h1, fi, fs, sr, hk, ff, fo, ss, Option.bind_some, bne_self_eq_false, beq_self_eq_true, cond_true, cond_false, Bool.not_true, Bool.not_false]
      | false =>
        rw [hv] at fo
        have e99 : eqb (f.ver + 1) 99 = true := eqb_true.2 (by
          have hv2 := flow_verB h4
          simp only at hv2
          by_cases h9 : f.ver + 1 = 99
          · exact h9
          · rw [flow_at_ver o1 (by omega) (by omega)] at hv; cases hv)
        simp only [h1, fi, fs, sr, hk, ff, fo, e99, Option.bind_some, bne_self_eq_false, beq_self_eq_true, cond_true, cond_false, Bool.not_true, Bool.not_false]
end Go.Proofs.Ythmifmpllgofkaa
