/- The law: a drop does not change what is behind what. -/
import Derived.Test.YtmnhnldnnniglaaP54
set_option linter.all false
namespace Go.Proofs.Ytmnhnldnnniglaa

theorem beh_inner {N : Nat} {n : Str} {y : Step} {ks : List Str} (hN : y.after.length < N) : m_impl_FlowBehind_L17 N n y N ks 0 = some (.brk (y.after.foldl (behIn n) ks, y.after.length)) := by
  rw [loop0 (fun m (s : List Str) k => m_impl_FlowBehind_L17 N n y m s k) y.after (fun _ a s => .inr (behIn n s a)) (fun k s => (s, k)) N hN ?_ ?_ ks]
  · rw [goL_fold (fun (a : Str) (s : List Str) => behIn n s a), Nat.zero_add]
  · rintro m s k rfl
    simp only [m_impl_FlowBehind_L17]
    rw [ltb_false.2 (by omega)]; rfl
  · intro m s k h
    simp only [m_impl_FlowBehind_L17]
    rw [ltb_true.2 (by omega), cond_true, List.getElem?_eq_getElem h, Option.bind_some]
    unfold behIn
    cases s.any fun u => seq u y.after[k] <;> rfl

theorem beh_outer {N : Nat} {f : Flow} {d : List Str} {ks : List Str} (hf : smallF f 8) (hd : ∀ n ∈ d, hasS f.steps n = true) (hl : d.length < N) (hN : 100 < N) : m_impl_FlowBehind_L10 N f d N ks 0 = some (.brk (d.foldl (behStep f.steps) ks, d.length)) := by
  rw [loop0 (fun m (s : List Str) k => m_impl_FlowBehind_L10 N f d m s k) d (fun _ n s => .inr (behStep f.steps s n)) (fun k s => (s, k)) N hl ?_ ?_ ks]
  · rw [goL_fold (fun (n : Str) (s : List Str) => behStep f.steps s n), Nat.zero_add]
  · rintro m s k rfl
    simp only [m_impl_FlowBehind_L10]
    rw [ltb_false.2 (by omega)]; rfl
  · intro m s k h
    have h8 := hf.1
    have hh := hd _ (List.getElem_mem h)
    obtain ⟨i, hi, e1, e2, e3, e4⟩ := get_in hh
    have h4 := (hf.2 _ (stepOf_in hh).1).2.1
    simp only [m_impl_FlowBehind_L10]
    rw [ltb_true.2 (by omega), cond_true, List.getElem?_eq_getElem h, Option.bind_some, e_Flow_at (by omega), Option.bind_some, e2, Option.bind_some, beh_inner (by omega)]
    rfl

def behL (f : Flow) (x0 : Str) : List Str := (f.steps.map (·.name)).filter fun n => hasB (behB f x0) n && !seq n x0
theorem e_FlowBehind {N : Nat} {f : Flow} {x0 : Str} (hf : flowOk f = true) (h : hasS f.steps x0 = true) (hN : 100 < N) : m_impl_FlowBehind N f x0 = some (behL f x0) := by
  have sf := flow_small hf
  have h8 := sf.1
  have ho := ord_ordN hf f.steps.length [] (ord_nil _)
  have hol := ord_len ho
  obtain ⟨i, hi, e1, e2, e3, e4⟩ := get_in h
  unfold m_impl_FlowBehind
  rw [e_impl_FlowValid sf (by omega) (by omega), Option.bind_some, hf, e_Flow_at (by omega), Option.bind_some, e1]
  simp only [Bool.not_true, cond_false]
  rw [ltb_false.2 (by omega), cond_false, e_Flow_order (by omega) (fun s hs => by have := (sf.2 s hs).2.1; omega) (by omega), Option.bind_some]
  rw [beh_outer sf (ord_mem ho) (by omega) hN, Option.bind_some]
  simp only [Ex.go]
  rw [e_Flow_names (by omega) (by omega), Option.bind_some]
  rw [pick_list (fun n => hasB (behB f x0) n && !seq n x0) (fun n => n) (fun n s k => m_impl_FlowBehind_L26 N x0 (List.foldl (behStep f.steps) (addS [] x0) (ordN f.steps f.steps.length []), (ordN f.steps f.steps.length []).length) (f.steps.map (·.name)) n s k) (f.steps.map (·.name)) (fun k s => (s, k)) N (by simp; omega) ?_ ?_, Option.bind_some]
  · simp only [Ex.go, List.map_id']
    rfl
  · rintro n s k rfl
    simp only [m_impl_FlowBehind_L26]
    rw [ltb_false.2 (by omega)]; rfl
  · intro n s k hk hs
    have hk8 : k < f.steps.length := by simpa using hk
    simp only [m_impl_FlowBehind_L26]
    rw [ltb_true.2 (by omega), cond_true, List.getElem?_eq_getElem hk, Option.bind_some]
    have e : ((List.foldl (behStep f.steps) (addS [] x0) (ordN f.steps f.steps.length [])).any fun u => seq u (f.steps.map (·.name))[k]) = hasB (behB f x0) (f.steps.map (·.name))[k] := by
      unfold hasB behB
      refine congrArg (fun p => List.any _ p) (funext fun u => ?_)
      rw [seq_dec]
    rw [e]
    cases hasB (behB f x0) (f.steps.map (·.name))[k] with
    | false => rfl
    | true =>
      simp only [cond_true, Bool.true_and]
      cases seq (f.steps.map (·.name))[k] x0 with
      | true => rfl
      | false =>
        simp only [Bool.not_false, cond_true]
        rw [appd_ok (by simp; omega)]; rfl

/-- The law. -/
theorem p_FnChangeBehind (u0 : List UInt8) : ∃ N, m_laws_FnChangeBehind N u0 = some true := by
  refine ⟨2000000, ?_⟩
  unfold m_laws_FnChangeBehind
  refine begin1 ?_
  obtain ⟨f, c, h1, hf, hc⟩ := e_DrawFlowChange (N := 2000000) (code := u0) (by omega)
  obtain ⟨fi, fs, sr⟩ := ch_begin hf hc
  cases hb : (chF f c).2 with
  | false => simp only [h1, fi, fs, sr, hb, Option.bind_some, bne_self_eq_false, beq_self_eq_true, cond_true, cond_false, Bool.not_true, Bool.not_false]
  | true =>
    obtain ⟨o1, o2, st, h3, h4, h5⟩ := ch_cases hb
    have ha := flow_ascK o1
    have hl := hf.1
    rw [h5] at fi fs sr
    cases hk : eqb c.kind 2 with
    | false => simp only [h1, fi, fs, sr, hk, Option.bind_some, bne_self_eq_false, beq_self_eq_true, cond_true, cond_false, Bool.not_true, Bool.not_false]
    | true =>
      have hk1 := eqb_true.1 hk
      rcases chSteps_cases h3 with ⟨kk, hh, rfl⟩ | ⟨kk, hh, rfl⟩ | ⟨kk, hh, rfl⟩ | ⟨kk, hh, rfl⟩
      · omega
      rotate_left
      · omega
      · omega
      have hg8 := (flow_small h4).1
      simp only at hg8
      have loop : m_laws_FnChangeBehind_L22 2000000 (f, c) (⟨f.ver + 1, withoutS f.steps c.step.name⟩, true) 2000000 0 = some (.brk (withoutS f.steps c.step.name).length) := by
        rw [all_list (fun _ _ => true) false (fun n k => m_laws_FnChangeBehind_L22 2000000 (f, c) (⟨f.ver + 1, withoutS f.steps c.step.name⟩, true) n k) (withoutS f.steps c.step.name) (fun k => k) 2000000 (by omega) ?_ ?_]
        · rw [allIdx_true.2 (fun _ _ => rfl)]; rfl
        · rintro n k rfl
          simp only [m_laws_FnChangeBehind_L22]
          rw [ltb_false.2 (by omega)]; rfl
        · intro n k h
          obtain ⟨s0, hs0, hne0, es⟩ := without_mem.1 (List.getElem_mem h)
          have en : (withoutS f.steps c.step.name)[k].name = s0.name := by rw [es, drop_name]
          have hx : hasS f.steps s0.name = true := has_iff.2 ⟨s0, hs0, rfl⟩
          have hx2 : hasS (withoutS f.steps c.step.name) s0.name = true := by rw [without_hasO hne0]; exact hx
          simp only [m_laws_FnChangeBehind_L22]
          rw [ltb_true.2 (by omega), cond_true, List.getElem?_eq_getElem h, Option.bind_some, en, e_FlowBehind o1 hx (by omega), Option.bind_some]
          have hbl : (behL f s0.name).length ≤ 8 := by
            unfold behL
            refine Nat.le_trans (List.length_filter_le _ _) ?_
            rw [List.length_map]; omega
          rw [pick_list (fun x => !seq x c.step.name) (fun x => x) (fun n s k => m_laws_FnChangeBehind_L32 2000000 (f, c) (behL f s0.name) n s k) (behL f s0.name) (fun k s => (s, k)) 2000000 (by omega) ?_ ?_, Option.bind_some]
          · simp only [Ex.go, List.map_id']
            rw [e_FlowBehind h4 hx2 (by omega), Option.bind_some]
            have e : (behL f s0.name).filter (fun x => !seq x c.step.name) = behL ⟨f.ver + 1, withoutS f.steps c.step.name⟩ s0.name := by
              unfold behL
              rw [List.filter_filter]
              simp only
              rw [without_names, List.filter_filter]
              refine List.filter_congr fun x hxm => ?_
              cases hq : seq x c.step.name with
              | true => simp
              | false =>
                have hxn : x ≠ c.step.name := seq_false.1 hq
                have hxw : hasS (withoutS f.steps c.step.name) x = true := by
                  rw [without_hasO hxn]
                  exact hasB_true.2 hxm
                have := beh_drop (v := f.ver + 1) o1 hh h4 hne0 hxw
                have e3 : hasB (behB f s0.name) x = hasB (behB ⟨f.ver + 1, withoutS f.steps c.step.name⟩ s0.name) x := by
                  rw [Bool.eq_iff_iff, hasB_true, hasB_true]
                  exact this.symm
                rw [e3]
                simp
            rw [e, e_sameTexts (by
              rw [← e]
              have := List.length_filter_le (fun x => !seq x c.step.name) (behL f s0.name)
              omega), decide_eq_true rfl]
            rfl
          · rintro n s k rfl
            simp only [m_laws_FnChangeBehind_L32]
            rw [ltb_false.2 (by omega)]; rfl
          · intro n s k hk hs
            simp only [m_laws_FnChangeBehind_L32]
            rw [ltb_true.2 (by omega), cond_true, List.getElem?_eq_getElem hk, Option.bind_some]
            cases seq (behL f s0.name)[k] c.step.name with
            | true => rfl
            | false =>
              simp only [Bool.not_false, cond_true]
              rw [appd_ok (by simp; omega)]; rfl
      simp only [h1, fi, fs, sr, hk, loop, Option.bind_some, bne_self_eq_false, beq_self_eq_true, cond_true, cond_false, Bool.not_true, Bool.not_false, Ex.go]
end Go.Proofs.Ytmnhnldnnniglaa
