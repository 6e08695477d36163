/- Changes of flows: the program's own functions reckon them so. -/
import Derived.Test.YtmnhnldnnniglaaGreatP41
import Derived.Test.YtmnhnldnnniglaaGreatP43
import Derived.Test.YtmnhnldnnniglaaGreatP9
set_option linter.all false
namespace Go.Proofs.YtmnhnldnnniglaaGreat

/-! ## Sorted and each once -/

theorem slt_lt {a b : Str} : slt a b = true ↔ sbs a < sbs b := by
  unfold slt sbs
  rw [ByteArray.toList_eq, ByteArray.toList_eq, bytesLess_eq, decide_eq_true_iff]
theorem ascS_iff {l : List Step} : ascS l ↔ ascK nameK l := by
  unfold ascS ascK
  constructor
  · exact fun h => h.imp fun h => slt_lt.2 h
  · exact fun h => h.imp fun h => slt_lt.1 h

theorem compact_mem {zs : List (List UInt8)} {x : List UInt8} : x ∈ Lib.compact zs ↔ x ∈ zs := by
  unfold Lib.compact Lib.compactUpTo
  constructor
  · intro h
    obtain ⟨i, hi, rfl⟩ := List.mem_map.1 h
    have hi' : i < zs.length := List.mem_range.1 (List.mem_filter.1 hi).1
    simp [getElem!_pos, hi']
  · intro h
    obtain ⟨j, hj, rfl⟩ := List.getElem_of_mem h
    have key : ∀ j (hj : j < zs.length), zs[j] ∈ List.map (fun x => zs.toArray[x]!) (List.filter (Lib.keeps zs.toArray) (List.range zs.length)) := by
      intro j
      induction j with
      | zero =>
        intro hj
        exact List.mem_map.2 ⟨0, List.mem_filter.2 ⟨List.mem_range.2 hj, by simp [Lib.keeps]⟩, by simp [getElem!_pos, hj]⟩
      | succ j ih =>
        intro hj
        by_cases e : zs[j + 1] = zs[j]
        · rw [e]; exact ih (by omega)
        · refine List.mem_map.2 ⟨j + 1, List.mem_filter.2 ⟨List.mem_range.2 hj, ?_⟩, by simp [getElem!_pos, hj]⟩
          have h1 : zs.toArray[j + 1]! = zs[j + 1] := by simp [getElem!_pos, hj]
          have h2 : zs.toArray[j]! = zs[j]'(by omega) := by simp [getElem!_pos, show j < zs.length by omega]
          simp only [Lib.keeps, Nat.add_sub_cancel, h1, h2, decide_eq_true_eq]
          exact .inr e
    exact key j hj
theorem compact_asc {zs : List (List UInt8)} (h : zs.Pairwise fun a b => ¬ b < a) : (Lib.compact zs).Pairwise fun a b => a < b := by
  unfold Lib.compact Lib.compactUpTo
  rw [List.pairwise_map]
  refine List.Pairwise.imp_of_mem ?_ (List.pairwise_lt_range.filter _)
  intro i j hi hj hij
  have hj2 := List.mem_filter.1 hj
  have hjl : j < zs.length := List.mem_range.1 hj2.1
  have hk := hj2.2
  have g1 : zs.toArray[i]! = zs[i]'(by omega) := by simp [getElem!_pos, show i < zs.length by omega]
  have g2 : zs.toArray[j]! = zs[j] := by simp [getElem!_pos, hjl]
  have g3 : zs.toArray[j - 1]! = zs[j - 1]'(by omega) := by simp [getElem!_pos, show j - 1 < zs.length by omega]
  simp only [Lib.keeps, decide_eq_true_eq, g2, g3] at hk
  rw [g1, g2]
  have hp := List.pairwise_iff_getElem.1 h
  have a1 : zs[j - 1]'(by omega) < zs[j] := by
    rcases List.le_iff_lt_or_eq.1 (List.not_lt.1 (hp (j - 1) j (by omega) hjl (by omega))) with h5 | h5
    · exact h5
    · rcases hk with h6 | h6
      · omega
      · exact absurd h5.symm h6
  rcases Nat.lt_or_ge i (j - 1) with h2 | h2
  · rcases List.le_iff_lt_or_eq.1 (List.not_lt.1 (hp i (j - 1) (by omega) (by omega) h2)) with h5 | h5
    · exact List.lt_trans h5 a1
    · rw [h5]; exact a1
  · obtain rfl : i = j - 1 := by omega
    exact a1
theorem sortComp (l : List Str) : compStrs (sortStrs l) = joinL l := by
  have e1 : (sortStrs l).map sbs = (l.map sbs).mergeSort fun x y => decide (x ≤ y) := by
    unfold sortStrs
    rw [List.map_map]
    have : (sbs ∘ sob) = id := by funext x; exact sbs_sob x
    rw [this, List.map_id]
  unfold compStrs
  rw [e1]
  have hs : ((l.map sbs).mergeSort fun x y => decide (x ≤ y)).Pairwise fun a b => ¬ b < a := by
    have := List.pairwise_mergeSort (le := fun x y : List UInt8 => decide (x ≤ y)) (fun a b c h4 h5 => by
      simp only [decide_eq_true_eq] at h4 h5 ⊢
      exact List.le_trans h4 h5) (fun a b => by
      simp only [Bool.or_eq_true, decide_eq_true_eq]
      exact List.le_total _ _) (l.map sbs)
    exact this.imp fun {a b} hab => by
      simp only [decide_eq_true_eq] at hab
      exact List.not_lt.2 hab
  refine ascK_unique (key := id) ?_ (join_asc l) fun x => ?_
  · unfold ascK
    rw [List.pairwise_map]
    exact (compact_asc hs).imp fun {a b} hab => by
      simp only [id]
      rw [slt_lt, sbs_sob, sbs_sob]; exact hab
  · rw [join_mem, List.mem_map]
    constructor
    · rintro ⟨z, hz, rfl⟩
      rw [compact_mem, List.mem_mergeSort, List.mem_map] at hz
      obtain ⟨y, hy, rfl⟩ := hz
      rw [sob_sbs]; exact hy
    · intro hx
      exact ⟨sbs x, compact_mem.2 (List.mem_mergeSort.2 (List.mem_map_of_mem hx)), sob_sbs x⟩

/-! ## A step is dropped -/

theorem filter_at {l : List Step} {i : Nat} {u : Str} (ha : ascK nameK l) (hi : i < l.length) (e : l[i].name = u) : l.filter (fun s => !seq s.name u) = l.take i ++ l.drop (i + 1) := by
  rw [← List.eraseIdx_eq_take_drop_succ]
  refine ascK_unique (ha.filter _) (List.Pairwise.sublist (List.eraseIdx_sublist l i) ha) fun x => ?_
  rw [List.mem_filter, List.mem_eraseIdx_iff_getElem]
  constructor
  · rintro ⟨h1, h2⟩
    obtain ⟨j, hj, rfl⟩ := List.getElem_of_mem h1
    refine ⟨j, hj, fun e2 => ?_, rfl⟩
    subst e2
    rw [e, seq_self] at h2; cases h2
  · rintro ⟨j, hj, hne, rfl⟩
    refine ⟨List.getElem_mem hj, ?_⟩
    rw [seq_false.2 (fun e2 => ?_)]; rfl
    have hp := List.pairwise_iff_getElem.1 ha
    rcases Nat.lt_or_gt_of_ne hne with h1 | h1
    · have := slt_ne (hp j i hj hi h1)
      exact this (e2.trans e.symm)
    · have := slt_ne (hp i j hi hj h1)
      exact this (e.trans e2.symm)

theorem drop_loop {N : Nat} {u : Str} {y : Step} {x : List Step} (hx : x.length ≤ 1000000) (hs : ∀ s ∈ x, s.after.length ≤ 1000000) (hy : y.after.length ≤ 1000000) (hN : 1000002 < N) : ∀ (m n k : Nat) (s : List Step), x.length - k = m → k ≤ x.length → m < n → s.length = x.length → (∀ j, k ≤ j → s[j]? = x[j]?) →
    m_impl_Flow_drop_L9 N u y x n s k = some (.brk (s.take k ++ (x.drop k).map (dropA u y.after), x.length))
  | 0, n, k, s, hm, hk, hn, hl, hq => by
    obtain ⟨n, rfl⟩ : ∃ n', n = n' + 1 := ⟨n - 1, by omega⟩
    obtain rfl : k = x.length := by omega
    simp only [m_impl_Flow_drop_L9]
    rw [ltb_false.2 (by omega), List.drop_eq_nil_of_le (by omega), List.take_of_length_le (by omega)]
    simp
  | m + 1, n, k, s, hm, hk, hn, hl, hq => by
    obtain ⟨n, rfl⟩ : ∃ n', n = n' + 1 := ⟨n - 1, by omega⟩
    have hkl : k < x.length := by omega
    have h4 := hs _ (List.getElem_mem hkl)
    simp only [m_impl_Flow_drop_L9]
    rw [ltb_true.2 (by omega), cond_true, hq k (Nat.le_refl _), List.getElem?_eq_getElem hkl, Option.bind_some, e_Contains (by omega), Option.bind_some, List.drop_eq_getElem_cons hkl, List.map_cons]
    have hsk : s[k]'(by omega) = x[k] := by
      have := hq k (Nat.le_refl _)
      rw [List.getElem?_eq_getElem (by omega), List.getElem?_eq_getElem hkl] at this
      exact Option.some.inj this
    cases hh : hasB x[k].after u with
    | false =>
      have e : dropA u y.after x[k] = x[k] := drop_not hh
      simp only [Bool.not_false, cond_true]
      rw [drop_loop hx hs hy hN m n (k + 1) s (by omega) (by omega) (by omega) hl (fun j hj => hq j (by omega)), e, List.take_succ_eq_append_getElem (by omega), hsk]
      simp
    | true =>
      simp only [Bool.not_true, cond_false]
      have hf : (x[k].after.filter fun z => !seq z u).length ≤ x[k].after.length := List.length_filter_le _ _
      rw [show m_impl_cloneNames N x[k].after = some x[k].after from by unfold m_impl_cloneNames; rw [appd_ok (by simp; omega)]; rfl, Option.bind_some]
      have ed : m_slices_DeleteFunc_string N x[k].after (fun x0 => m_impl_Flow_drop_f1 N x0 u) = some (x[k].after.filter fun z => !seq z u) := e_DeleteFunc (fun z => seq z u) (fun z _ => rfl) (by omega) (by omega)
      rw [ed, Option.bind_some, appd_ok (by omega), Option.bind_some, Option.bind_some]
      have es : m_slices_Sort_string N ((x[k].after.filter fun z => !seq z u) ++ y.after) = some ((), sortStrs ((x[k].after.filter fun z => !seq z u) ++ y.after)) := by
        unfold m_slices_Sort_string
        rw [if_pos (by rw [List.length_append]; omega)]
      rw [es, Option.bind_some]
      unfold m_slices_Compact_string
      rw [Option.bind_some, sortComp]
      have e : dropA u y.after x[k] = ⟨x[k].name, joinL ((x[k].after.filter fun z => !seq z u) ++ y.after), x[k].undo⟩ := by unfold dropA; rw [hh]; rfl
      rw [← e]
      rw [drop_loop hx hs hy hN m n (k + 1) _ (by omega) (by omega) (by omega) (by rw [List.length_set]; exact hl) (fun j hj => by rw [List.getElem?_set_ne (by omega)]; exact hq j (by omega))]
      rw [List.take_succ_eq_append_getElem (by rw [List.length_set]; omega), List.getElem_set_self, List.take_set_of_le (Nat.le_refl _)]
      simp

theorem e_Flow_drop {N : Nat} {f : Flow} {u : Str} (hf : smallF f 8) (ha : ascK nameK f.steps) (h : hasS f.steps u = true) (hN : 1000002 < N) : m_impl_Flow_drop N f u = some (withoutS f.steps u) := by
  obtain ⟨i, hi, e1, e2, e3, e4⟩ := get_in h
  have h8 := hf.1
  unfold m_impl_Flow_drop
  rw [e_Flow_at (by omega), Option.bind_some, Option.bind_some, e2, Option.bind_some]
  have ed : m_slices_Delete_Step N f.steps (posOf (·.name) f.steps u) (w64 (posOf (·.name) f.steps u + 1)) = some (f.steps.take i ++ f.steps.drop (i + 1)) := by
    unfold m_slices_Delete_Step sl3 kle slTo slFrom
    rw [e1, w64_id (by omega), if_pos (by omega), Option.bind_some, eqb_false.2 (by omega), cond_false, if_pos (by omega), Option.bind_some, if_pos (by omega), Option.bind_some, if_pos (by omega), Option.bind_some]
    rw [show ((i : Nat) : Int).toNat = i by omega, show (((i : Nat) : Int) + 1).toNat = i + 1 by omega]
  rw [ed, Option.bind_some, ← filter_at ha hi e4]
  have hle := List.length_filter_le (fun s : Step => !seq s.name u) f.steps
  have hst := (hf.2 _ (stepOf_in h).1).2.1
  rw [drop_loop (by omega) (fun s hs => by have := (hf.2 s (List.mem_filter.1 hs).1).2.1; omega) (by omega) hN (f.steps.filter fun s => !seq s.name u).length N 0 _ (by omega) (by omega) (by omega) rfl (fun _ _ => rfl), Option.bind_some]
  simp only [Ex.go, List.take_zero, List.nil_append, List.drop_zero]
  unfold withoutS
  rw [List.filter_map]
  have e : ((fun s : Step => !seq s.name u) ∘ dropA u (stepOf f.steps u).after) = fun s : Step => !seq s.name u := by funext s; simp only [Function.comp, drop_name]
  rw [e]

/-! ## A change is made -/

theorem e_cloneN {N : Nat} {l : List Str} (h : l.length ≤ 4000000000) : m_impl_cloneNames N l = some l := by unfold m_impl_cloneNames; rw [appd_ok (by simp; omega)]; rfl
theorem e_cloneS {N : Nat} {s : Step} (h : s.after.length ≤ 4000000000) : m_impl_Step_clone N s = some s := by unfold m_impl_Step_clone; rw [e_cloneN h]; rfl

theorem e_impl_FlowChange {N B : Nat} {f : Flow} {c : Change} (hf : smallF f B) (hc : smallS c.step B) (hB : B ≤ 1999999999) (hN : B < N) (h100 : 1000002 < N) : m_impl_FlowChange N f c = some (chF f c) := by
  unfold m_impl_FlowChange chF
  rw [e_impl_FlowValid hf (by omega) (by omega), Option.bind_some]
  cases h1 : flowOk f with
  | false => rfl
  | true =>
    simp only [Bool.not_true, cond_false]
    rw [e_impl_StepValid hc (by omega) (by omega), Option.bind_some]
    cases h2 : stepOk c.step with
    | false => rfl
    | true =>
      have sf := flow_small h1
      have sc := step_small h2
      have ha := flow_ascK h1
      have h5 := flow_verB h1
      have h8 := sf.1
      simp only [Bool.not_true, cond_false, Bool.and_self, cond_true]
      by_cases k1 : c.kind < 1
      · rw [ltb_true.2 k1]
        unfold chSteps
        rw [eqb_false.2 (by omega), eqb_false.2 (by omega), eqb_false.2 (by omega), eqb_false.2 (by omega)]
        rfl
      rw [ltb_false.2 (by omega), cond_false]
      by_cases k4 : 4 < c.kind
      · rw [ltb_true.2 k4]
        unfold chSteps
        rw [eqb_false.2 (by omega), eqb_false.2 (by omega), eqb_false.2 (by omega), eqb_false.2 (by omega)]
        rfl
      rw [ltb_false.2 (by omega), cond_false, e_Flow_at (by omega), Option.bind_some, has_leb2]
      -- behind the tests
      have tail : ∀ st : List Step, chSteps f.steps c = some st → ((m_impl_FlowValid N (Flow.mk (w64 (f.ver + 1)) st)).bind fun x94 => (bif !x94 then some ((Flow.mk 0 []), false) else (m_impl_Flow_clone N (Flow.mk (w64 (f.ver + 1)) st)).bind fun x98 => some (x98, true))) = some (bif flowOk ⟨f.ver + 1, st⟩ then (⟨f.ver + 1, st⟩, true) else (⟨0, []⟩, false)) := fun st h => by
        have h6 := chSteps_small h1 h2 h
        have hg : smallF ⟨w64 (f.ver + 1), st⟩ 20 := ⟨h6.1, h6.2⟩
        rw [e_impl_FlowValid hg (by omega) (by omega), Option.bind_some, w64_id (by omega)]
        cases flowOk ⟨f.ver + 1, st⟩ with
        | false => rfl
        | true =>
          simp only [Bool.not_true, cond_false, cond_true]
          rw [w64_id (by omega)] at hg
          rw [e_Flow_clone hg (by omega) (by omega)]; rfl
      have cl := e_Flow_clone (N := N) sf (by omega) (by omega)
      have at2 : m_impl_Flow_at N (Flow.mk (w64 (f.ver + 1)) f.steps) c.step.name = some (posOf (·.name) f.steps c.step.name) := e_Flow_at (f := Flow.mk (w64 (f.ver + 1)) f.steps) (by simp only; omega)
      cases hh : hasS f.steps c.step.name with
      | false =>
        cases hk : eqb c.kind 1 with
        | false =>
          simp only [beq_self_eq_true, cond_true, Option.bind_some, Ex.go]
          unfold chSteps
          rw [hh, hk]
          simp
        | true =>
          simp only [show (false == true) = false from rfl, cond_false, Option.bind_some, Ex.go, cl, at2, hk, cond_true]
          rw [e_cloneS (by have := sc.2.1; omega), Option.bind_some, appd_ok (by simp; omega), Option.bind_some]
          rw [m_SortFunc (y := withS f.steps c.step) (by simp) (by simp; omega) (putK_perm (key := nameK) (fun y hy => has_false.1 hh y hy)) (ascS_iff.2 (with_asc ha)), Option.bind_some, Option.bind_some]
          have h3 : chSteps f.steps c = some (withS f.steps c.step) := by unfold chSteps; rw [hh, hk]; rfl
          rw [tail _ h3, h3]
      | true =>
        obtain ⟨i, hi, e1, e2, e3, e4⟩ := get_in hh
        have hst := sf.2 _ (stepOf_in hh).1
        cases hk1 : eqb c.kind 1 with
        | true =>
          simp only [beq_self_eq_true, cond_true, Option.bind_some, Ex.go]
          unfold chSteps
          rw [hh, hk1, eqb_false.2 (by have := eqb_true.1 hk1; omega), eqb_false.2 (by have := eqb_true.1 hk1; omega), eqb_false.2 (by have := eqb_true.1 hk1; omega)]
          rfl
        | false =>
          simp only [show (true == false) = false from rfl, cond_false, Option.bind_some, Ex.go, cl, at2, hk1]
          cases hk2 : eqb c.kind 2 with
          | true =>
            simp only [cond_true]
            rw [e_Flow_drop (f := Flow.mk (w64 (f.ver + 1)) f.steps) sf ha hh h100, Option.bind_some, Option.bind_some]
            have h3 : chSteps f.steps c = some (withoutS f.steps c.step.name) := by unfold chSteps; rw [hh, hk1, hk2]; rfl
            simp only
            rw [tail _ h3, h3]
          | false =>
            simp only [cond_false]
            cases hk3 : eqb c.kind 3 with
            | true =>
              simp only [cond_true]
              rw [e_cloneN (by have := sc.2.1; omega), Option.bind_some, e2, Option.bind_some, Option.bind_some]
              have h3 : chSteps f.steps c = some (withS f.steps ⟨c.step.name, c.step.after, (stepOf f.steps c.step.name).undo⟩) := by unfold chSteps; rw [hh, hk1, hk2, hk3]; rfl
              have h4 : f.steps.set (posOf (·.name) f.steps c.step.name).toNat (Step.mk (stepOf f.steps c.step.name).name c.step.after (stepOf f.steps c.step.name).undo) = withS f.steps ⟨c.step.name, c.step.after, (stepOf f.steps c.step.name).undo⟩ := by
                rw [e1, Int.toNat_natCast, (stepOf_in hh).2]
                exact set_put ha hi e4
              rw [h4, tail _ h3, h3]
            | false =>
              have hk4 : eqb c.kind 4 = true := eqb_true.2 (by have a1 := eqb_false.1 hk1; have a2 := eqb_false.1 hk2; have a3 := eqb_false.1 hk3; omega)
              simp only [cond_false, hk4, cond_true]
              rw [e2, Option.bind_some, Option.bind_some]
              have h3 : chSteps f.steps c = some (withS f.steps ⟨c.step.name, (stepOf f.steps c.step.name).after, c.step.undo⟩) := by unfold chSteps; rw [hh, hk1, hk2, hk3, hk4]; rfl
              have h4 : f.steps.set (posOf (·.name) f.steps c.step.name).toNat (Step.mk (stepOf f.steps c.step.name).name (stepOf f.steps c.step.name).after c.step.undo) = withS f.steps ⟨c.step.name, (stepOf f.steps c.step.name).after, c.step.undo⟩ := by
                rw [e1, Int.toNat_natCast, (stepOf_in hh).2]
                exact set_put ha hi e4
              rw [h4, tail _ h3, h3]
end Go.Proofs.YtmnhnldnnniglaaGreat
