/- The law: who came after a dropped step comes after what it came after. -/
import Derived.Test.YtmnhnldnnniglaaP44
set_option linter.all false
namespace Go.Proofs.Ytmnhnldnnniglaa

/-- The law. -/
theorem p_FnChangeDrop (u0 : List UInt8) : ∃ N, m_laws_FnChangeDrop N u0 = some true := by
  refine ⟨2000000, ?_⟩
  unfold m_laws_FnChangeDrop
  refine begin1 ?_
  obtain ⟨f, c, h1, hf, hc⟩ := e_DrawFlowChange (N := 2000000) (code := u0) (by omega)
  obtain ⟨fi, fs, sr⟩ := ch_begin hf hc
  cases hb : (chF f c).2 with
  | false => simp only [h1, fi, fs, sr, hb, Option.bind_some, bne_self_eq_false, beq_self_eq_true, cond_true, cond_false, Bool.not_true, Bool.not_false]
  | true =>
    obtain ⟨o1, o2, st, h3, h4, h5⟩ := ch_cases hb
    have ha := flow_ascK o1
    have hl := hf.1
    rw [h5] at fi fs sr
    cases hk : eqb c.kind 2 with
    | false => simp only [h1, fi, fs, sr, hk, Option.bind_some, bne_self_eq_false, beq_self_eq_true, cond_true, cond_false, Bool.not_true, Bool.not_false]
    | true =>
      have hk1 := eqb_true.1 hk
      rcases chSteps_cases h3 with ⟨kk, hh, rfl⟩ | ⟨kk, hh, rfl⟩ | ⟨kk, hh, rfl⟩ | ⟨kk, hh, rfl⟩
      · omega
      rotate_left
      · omega
      · omega
      obtain ⟨hin, hnm⟩ := stepOf_in hh
      have ff := find_in (N := 2000000) o1 hin hnm (by omega)
      generalize hgd : stepOf f.steps c.step.name = gn at *
      have hg4 := (hf.2 _ hin).2.1
      have hself : c.step.name ∉ gn.after := by
        have := (flow_have o1 hin).1
        unfold stepOk at this
        simp only [Bool.and_eq_true, Bool.not_eq_true'] at this
        intro h
        rw [hnm, hasB_true.2 h] at this
        cases this.1.2
      have loop : m_laws_FnChangeDrop_L21 2000000 (f, c) (⟨f.ver + 1, withoutS f.steps c.step.name⟩, true) (gn, true) 2000000 0 = some (.brk f.steps.length) := by
        rw [all_list (fun _ _ => true) false (fun n k => m_laws_FnChangeDrop_L21 2000000 (f, c) (⟨f.ver + 1, withoutS f.steps c.step.name⟩, true) (gn, true) n k) f.steps (fun k => k) 2000000 (by omega) ?_ ?_]
        · rw [allIdx_true.2 (fun _ _ => rfl)]; rfl
        · rintro n k rfl
          simp only [m_laws_FnChangeDrop_L21]
          rw [ltb_false.2 (by omega)]; rfl
        · intro n k h
          have hs := List.getElem_mem h
          have hs4 := (hf.2 _ hs).2.1
          simp only [m_laws_FnChangeDrop_L21]
          rw [ltb_true.2 (by omega), cond_true, List.getElem?_eq_getElem h, Option.bind_some, e_placeOf (by omega), Option.bind_some, hasB_pos]
          cases hp : hasB f.steps[k].after c.step.name with
          | false => rfl
          | true =>
            simp only [cond_true]
            have hne : f.steps[k].name ≠ c.step.name := fun e => by
              have := (flow_have o1 hs).1
              unfold stepOk at this
              simp only [Bool.and_eq_true, Bool.not_eq_true'] at this
              rw [e, hp] at this
              cases this.1.2
            have hx : dropA c.step.name gn.after f.steps[k] ∈ withoutS f.steps c.step.name := by rw [← hgd]; exact without_other hs hne
            rw [find_in (N := 2000000) h4 (s := dropA c.step.name gn.after f.steps[k]) hx (drop_name _) (by omega)]
            have he : (dropA c.step.name gn.after f.steps[k]).after = joinL (f.steps[k].after.filter (fun x => !seq x c.step.name) ++ gn.after) := by unfold dropA; rw [hp]; rfl
            have hjl := join_len (f.steps[k].after.filter (fun x => !seq x c.step.name) ++ gn.after)
            have hfl := List.length_filter_le (fun x => !seq x c.step.name) f.steps[k].after
            rw [List.length_append] at hjl
            simp only [Option.bind_some, Bool.not_true, cond_false, he]
            have hv : haveB (joinL (f.steps[k].after.filter (fun x => !seq x c.step.name) ++ gn.after)) gn.after = true := by
              unfold haveB
              rw [List.all_eq_true]
              exact fun a haa => hasB_true.2 (join_mem.2 (List.mem_append.2 (.inr haa)))
            have hno : hasB (joinL (f.steps[k].after.filter (fun x => !seq x c.step.name) ++ gn.after)) c.step.name = false := by
              cases hcc : hasB (joinL (f.steps[k].after.filter (fun x => !seq x c.step.name) ++ gn.after)) c.step.name with
              | false => rfl
              | true =>
                rcases List.mem_append.1 (join_mem.1 (hasB_true.1 hcc)) with h6 | h6
                · have := (List.mem_filter.1 h6).2
                  rw [seq_self] at this; cases this
                · exact absurd h6 hself
            rw [e_NamesHave (by omega) (by omega), Option.bind_some, hv]
            simp only [Bool.not_true, cond_false]
            rw [e_placeOf (by omega), Option.bind_some, hasB_pos, hno, cond_false]
            have inner : m_laws_FnChangeDrop_L35 2000000 (f, c) f.steps[k] (dropA c.step.name gn.after f.steps[k], true) 2000000 0 = some (.brk f.steps[k].after.length) := by
              rw [all_list (fun _ _ => true) false (fun n j => m_laws_FnChangeDrop_L35 2000000 (f, c) f.steps[k] (dropA c.step.name gn.after f.steps[k], true) n j) f.steps[k].after (fun k => k) 2000000 (by omega) ?_ ?_]
              · rw [allIdx_true.2 (fun _ _ => rfl)]; rfl
              · rintro n j rfl
                simp only [m_laws_FnChangeDrop_L35]
                rw [ltb_false.2 (by omega)]; rfl
              · intro n j hj
                simp only [m_laws_FnChangeDrop_L35]
                rw [ltb_true.2 (by omega), cond_true, List.getElem?_eq_getElem hj, Option.bind_some]
                cases hq : seq f.steps[k].after[j] c.step.name with
                | true => rfl
                | false =>
                  simp only [Bool.not_false, cond_true, he]
                  rw [e_placeOf (by omega), Option.bind_some, hasB_neg, hasB_true.2 (join_mem.2 (List.mem_append.2 (.inl (List.mem_filter.2 ⟨List.getElem_mem hj, by rw [hq]; rfl⟩))))]
                  rfl
            rw [inner]
            rfl
      simp only [h1, fi, fs, sr, hk, ff, loop, Option.bind_some, bne_self_eq_false, beq_self_eq_true, cond_true, cond_false, Bool.not_true, Bool.not_false, Ex.go]
end Go.Proofs.Ytmnhnldnnniglaa
