/- The laws: what does not fit; same flows. -/
import Derived.Test.YtlcckcifnpjbpaaP16
import Derived.Test.YtlcckcifnpjbpaaP18
set_option linter.all false
namespace Go.Proofs.Ytlcckcifnpjbpaa

theorem small_up {f : Flow} {B C : Nat} (hf : smallF f B) (h : B ≤ C) : smallF f C := ⟨by have := hf.1; omega, fun s hs => ⟨by have := (hf.2 s hs).1; omega, by have := (hf.2 s hs).2.1; omega, fun z hz => by have := (hf.2 s hs).2.2 z hz; omega⟩⟩

theorem e_placeOf {N : Nat} {l : List Str} {s : Str} (hN : l.length < N) : m_laws_placeOf N l s = some (posOf id l s) := by
  unfold m_laws_placeOf
  rw [find_list (fun x => decide (id x = s)) (fun k => (k : Int)) (fun n k => m_laws_placeOf_L4 N l s n k) l (fun k => k) N hN ?_ ?_, Option.bind_some, pos_find (f := id)]
  · rintro n k rfl
    simp only [m_laws_placeOf_L4]
    rw [ltb_false.2 (by omega)]; rfl
  · intro n k h
    simp only [m_laws_placeOf_L4]
    rw [ltb_true.2 (by omega), cond_true, List.getElem?_eq_getElem h, Option.bind_some, seq_dec]
    rfl

theorem e_DrawFitBad {N : Nat} {code : List UInt8} (hN : 100 < N) : ∃ g d, m_spec_DrawFitBad N code = some (g, d) ∧ smallF g 16 ∧ shortL d 16 := by
  unfold m_spec_DrawFitBad
  obtain ⟨f, r, p, h1, h2, h3, h4⟩ := e_l91Both (N := N) (cd := code.take 2000) (p := 0) hN (by omega)
  rw [h1, Option.bind_some]
  simp only
  rw [pick_two (by omega)]
  simp only
  cases eqb ((pickv (code.take 2000) p 3 : Nat) : Int) 0 with
  | true =>
    simp only [cond_true]
    obtain ⟨l, q, g1, g2, g3⟩ := e_l91Names (N := N) (cd := code.take 2000) (p := p + 1) (by omega) (by omega)
    rw [g1]
    exact ⟨f, l, rfl, small_up h3 (by omega), by have := g3.1; omega, fun y hy => by have := g3.2 y hy; omega⟩
  | false =>
    simp only [cond_false]
    obtain ⟨g, q, g1, g2, g3⟩ := e_l92Other (N := N) (cd := code.take 2000) (p := p + 1) h3 hN (by omega)
    rw [g1]
    exact ⟨g, r.done, rfl, small_up g3 (by omega), h4⟩

theorem find_some {N B : Nat} {g : Flow} (hg : smallF g B) (hB : B ≤ 1999999999) (hN : B < N) (hok : flowOk g = true) {i : Nat} (hi : i < g.steps.length) : m_impl_FlowFind N g g.steps[i].name = some (g.steps[i], true) := by
  have hl := hg.1
  have := (hg.2 _ (List.getElem_mem hi)).2.1
  unfold m_impl_FlowFind
  rw [e_impl_FlowValid hg (by omega) hN, Option.bind_some, hok, e_Flow_at (by omega), Option.bind_some, step_at hok hi]
  simp only [Bool.not_true, cond_false, Option.bind_some]
  rw [ltb_false.2 (by omega), cond_false, geti_nat, List.getElem?_eq_getElem hi, Option.bind_some]
  unfold m_impl_Step_clone m_impl_cloneNames
  rw [appd_ok (by simp; omega)]
  rfl
theorem find_none {N B : Nat} {g : Flow} {y : Str} (hg : smallF g B) (hB : B ≤ 1999999999) (hN : B < N) (hok : flowOk g = true) (hy : hasB (g.steps.map (·.name)) y = false) : m_impl_FlowFind N g y = some (⟨⟨#[]⟩, [], false⟩, false) := by
  have hl := hg.1
  unfold m_impl_FlowFind
  rw [e_impl_FlowValid hg (by omega) hN, Option.bind_some, hok, e_Flow_at (by omega), Option.bind_some, hasB_map, hy]
  rfl

theorem both_true {g : Flow} {d : List Str} (h : (bothBad g d).2 = true) : flowOk g = true ∧ ∃ i, ∃ hi : i < d.length, (bothBad g d).1 = d[i] ∧ badK g.steps d i d[i] = true ∧ ∀ j (hj : j < i), badK g.steps d j (d[j]'(by omega)) = false := by
  unfold bothBad at h ⊢
  cases hok : flowOk g with
  | false => rw [hok] at h; cases h
  | true =>
    rw [hok] at h
    simp only [cond_true] at h ⊢
    unfold badOf at h ⊢
    rcases firstBad_cases g.steps d d 0 with ⟨h1, _⟩ | ⟨i, hi, h1, h2, h3⟩
    · rw [h1] at h; cases h
    · rw [h1]
      exact ⟨trivial, i, hi, rfl, by simpa using h2, fun j hj => by simpa using h3 j hj⟩

/-- The law. -/
theorem p_FnFitBad (u0 : List UInt8) : ∃ N, m_laws_FnFitBad N u0 = some true := by
  refine ⟨200, ?_⟩
  unfold m_laws_FnFitBad
  by_cases c0 : ltb 1048576 ((u0.length : Nat) : Int) = true
  · rw [c0, cond_true]
  rw [Bool.not_eq_true] at c0
  rw [c0, cond_false]
  obtain ⟨g, d, h1, hg, hd⟩ := e_DrawFitBad (N := 200) (code := u0) (by omega)
  have hlg := hg.1
  have hld := hd.1
  rw [h1, Option.bind_some]
  simp only
  rw [e_impl_FitBad hg hd.1 (by omega) (by omega), Option.bind_some, e_spec_FitBad hg hd.1 (by omega) (by omega), Option.bind_some]
  simp only [bne_self_eq_false, cond_false, beq_self_eq_true, seq_self, Bool.not_true, cond_true]
  cases hb : (bothBad g d).2 with
  | false => rfl
  | true =>
    simp only [Bool.not_true, cond_false]
    obtain ⟨hok, i, hi, e1, e2, e3⟩ := both_true hb
    rw [e_placeOf (by omega), Option.bind_some]
    have key := (seek_list (badK g.steps d) (fun y => seq y (bothBad g d).1) (fun n k => m_laws_FnFitBad_L18 200 (g, d) (bothBad g d) n k) d (fun k => k) 200 (by omega) ?_ ?_).1 i hi e2 e3
    · rw [key, e1, seq_self]; rfl
    · rintro n k rfl
      simp only [m_laws_FnFitBad_L18]
      rw [ltb_false.2 (by omega)]; rfl
    · intro n k h _
      simp only [m_laws_FnFitBad_L18]
      rw [ltb_true.2 (by omega), cond_true, List.getElem?_eq_getElem h, Option.bind_some]
      unfold badK
      cases hc : hasB (g.steps.map (·.name)) d[k] with
      | false => rw [find_none hg (by omega) (by omega) hok hc]; rfl
      | true =>
        obtain ⟨s, hs, he⟩ := List.mem_map.1 (hasB_true.1 hc)
        obtain ⟨j, hj, rfl⟩ := List.getElem_of_mem hs
        have := (hg.2 _ (List.getElem_mem hj)).2.1
        have hfind := find_some (N := 200) hg (by omega) (by omega) hok hj
        rw [he] at hfind
        have hat := step_at hok hj
        rw [he] at hat
        rw [hfind, hat, Int.toNat_natCast, List.getElem?_eq_getElem hj, Option.bind_some, e_placeOf (by omega), slTo_nat (by omega)]
        simp only [Bool.not_true, cond_false, cond_true, Option.bind_some, Bool.false_or]
        have ep : eqb (posOf id d d[k]) ((k : Nat) : Int) = !hasB (d.take k) d[k] := by
          have h2 := posOf_lt id d k h
          simp only [id] at h2
          have h3 : posOf id d d[k] < k ↔ hasB (d.take k) d[k] = true := by
            rw [hasB_true]
            rw [h2, List.mem_take_iff_getElem]
            constructor
            · rintro ⟨j, hj, he⟩; exact ⟨j, by omega, he⟩
            · rintro ⟨j, hj, he⟩; exact ⟨j, by omega, he⟩
          have h4 : posOf id d d[k] ≤ k := by
            rcases posOf_cases id d d[k] with ⟨_, h5⟩ | ⟨m, hm, h5, _, h6⟩
            · exact absurd rfl (h5 k h)
            · rw [h5]
              rcases Nat.lt_or_ge k m with h7 | h7
              · exact absurd rfl (h6 k h7)
              · omega
          cases hh : hasB (d.take k) d[k] with
          | true => have := h3.2 hh; rw [eqb_false.2 (by omega)]; rfl
          | false =>
            have : ¬ posOf id d d[k] < k := fun h8 => by rw [h3.1 h8] at hh; cases hh
            rw [eqb_true.2 (by omega)]; rfl
        rw [ep]
        cases hasB (d.take k) d[k] with
        | true => rfl
        | false =>
          simp only [Bool.not_false, cond_true, Bool.false_or]
          rw [e_NamesHave (by simp; omega) (by omega), Option.bind_some]

/-! ## The order of a flow fits it -/

theorem bad_take {steps : List Step} {l : List Str} {m i : Nat} {y : Str} (h : i ≤ m) : badK steps (l.take m) i y = badK steps l i y := by
  unfold badK
  rw [List.take_take, Nat.min_eq_left h]
theorem ord_take {steps : List Step} {l : List Str} (h : ordOk steps l = true) (m : Nat) : ordOk steps (l.take m) = true := by
  rw [ord_at] at h ⊢
  intro i hi
  rw [List.length_take] at hi
  rw [bad_take (by omega), List.getElem_take]
  exact h i (by omega)
theorem ord_snoc {f : Flow} (hok : flowOk f = true) {d : List Str} {s : Step} (h : ordOk f.steps d = true) (hs : f.steps.find? (free d) = some s) : ordOk f.steps (d ++ [s.name]) = true := by
  rw [ord_at] at h ⊢
  intro i hi
  rw [List.length_append, List.length_singleton] at hi
  rcases Nat.lt_or_ge i d.length with h1 | h1
  · have := h i h1
    rw [List.getElem_append_left h1]
    unfold badK at this ⊢
    rwa [List.take_append_of_le_length (by omega)]
  · obtain rfl : i = d.length := by omega
    rw [bad_free hok, List.take_append_of_le_length (Nat.le_refl _), List.take_length]
    have hm : hasB ((f.steps.filter (free d)).map (·.name)) s.name = true := hasB_true.2 (List.mem_map.2 ⟨s, List.mem_filter.2 ⟨List.mem_of_find?_eq_some hs, List.find?_some hs⟩, rfl⟩)
    simp only [List.getElem_concat_length]
    rw [hm]; rfl
theorem ord_ordN {f : Flow} (hok : flowOk f = true) : ∀ (n : Nat) (d : List Str), ordOk f.steps d = true → ordOk f.steps (ordN f.steps n d) = true
  | 0, d, h => h
  | n + 1, d, h => by
    unfold ordN
    cases hs : f.steps.find? (free d) with
    | none => exact h
    | some s => exact ord_ordN hok n _ (ord_snoc hok h hs)

theorem e_impl_FlowOrder {N B : Nat} {f : Flow} (hf : smallF f B) (hB : B ≤ 4000000000 - 1) (hN : B < N) : m_impl_FlowOrder N f = some (bif flowOk f then ordN f.steps f.steps.length [] else []) := by
  have hl := hf.1
  unfold m_impl_FlowOrder
  rw [e_impl_FlowValid hf hB hN, Option.bind_some]
  cases flowOk f with
  | false => rfl
  | true =>
    simp only [Bool.not_true, cond_false, cond_true]
    rw [e_Flow_order (by omega) (fun s hs => by have := (hf.2 s hs).2.1; omega) (by omega)]; rfl

/-- The law. -/
theorem p_FnFitBadNone (u0 : List UInt8) (u1 : List UInt8) : ∃ N, m_laws_FnFitBadNone N u0 u1 = some true := by
  refine ⟨200, ?_⟩
  unfold m_laws_FnFitBadNone
  by_cases c0 : ltb 1048576 ((u0.length : Nat) : Int) = true
  · rw [c0, cond_true]
  rw [Bool.not_eq_true] at c0
  rw [c0, cond_false]
  by_cases c1 : ltb 1048576 ((u1.length : Nat) : Int) = true
  · rw [c1, cond_true]
  rw [Bool.not_eq_true] at c1
  rw [c1, cond_false]
  obtain ⟨g, d, h1, hg, hd⟩ := e_DrawFitBad (N := 200) (code := u0) (by omega)
  have hlg := hg.1
  rw [h1, Option.bind_some]
  simp only
  rw [e_impl_FitBad hg hd.1 (by omega) (by omega), Option.bind_some, e_spec_FitBad hg hd.1 (by omega) (by omega), Option.bind_some]
  simp only [bne_self_eq_false, cond_false, beq_self_eq_true, seq_self, Bool.not_true]
  rw [e_impl_FlowOrder hg (by omega) (by omega), Option.bind_some]
  cases hok : flowOk g with
  | false =>
    simp only [cond_false, List.length_nil]
    rw [lsz_ok (by omega), Option.bind_some, slTo_nat (by simp; omega), Option.bind_some, e_impl_FitBad hg (by simp) (by omega) (by omega), Option.bind_some]
    unfold bothBad
    rw [hok]; rfl
  | true =>
    simp only [cond_true]
    have ho := ord_ordN hok g.steps.length [] (ord_nil _)
    have hl := ord_len ho
    have hm : u1.length % ((ordN g.steps g.steps.length []).length + 1) < (ordN g.steps g.steps.length []).length + 1 := Nat.mod_lt _ (by omega)
    rw [lsz_ok (by omega), Option.bind_some, slTo_nat (by omega), Option.bind_some, e_impl_FitBad hg (by rw [List.length_take]; omega) (by omega) (by omega), Option.bind_some]
    unfold bothBad
    rw [hok, cond_true, bad_ord, ord_take ho]
    rfl

/-! ## Same flows -/

theorem sameF_steps {f g : Flow} (h : sameF f g = true) : flowOk f = true ∧ flowOk g = true ∧ f.steps = g.steps := by
  unfold sameF at h
  rw [Bool.and_eq_true, Bool.and_eq_true, Bool.and_eq_true, eqb_true, allIdx_true] at h
  obtain ⟨h1, h2, h3, h4⟩ := h
  refine ⟨h1, h2, List.ext_getElem (by omega) fun i hi hj => ?_⟩
  have := h4 i hi
  rw [Nat.zero_add, List.getElem?_eq_getElem hj] at this
  exact (stepEq_true _ _).1 this
theorem sameF_of {f g : Flow} (h1 : flowOk f = true) (h2 : flowOk g = true) (h3 : f.steps = g.steps) : sameF f g = true := by
  unfold sameF
  rw [h1, h2, h3, eqb_true.2 rfl]
  simp only [Bool.true_and]
  rw [allIdx_true]
  intro i hi
  rw [Nat.zero_add, List.getElem?_eq_getElem hi]
  exact (stepEq_true _ _).2 rfl
theorem e_impl_RunNew {N B : Nat} {f : Flow} (hf : smallF f B) (hB : B ≤ 4000000000 - 1) (hN : B < N) : m_impl_RunNew N f = some (⟨0, []⟩, flowOk f) := by
  unfold m_impl_RunNew
  rw [e_impl_FlowValid hf hB hN]; rfl
theorem e_sameRun {N : Nat} {a b : Run} (hN : a.done.length < N) : m_laws_sameRun N a b = some (eqb a.state b.state && decide (a.done = b.done)) := by
  unfold m_laws_sameRun
  rw [e_sameTexts hN]
  cases eqb a.state b.state <;> rfl
theorem sameRun_self {N : Nat} {a : Run} (hN : a.done.length < N) : m_laws_sameRun N a a = some true := by
  rw [e_sameRun hN, eqb_true.2 rfl, decide_eq_true rfl]; rfl

/-- The law. -/
theorem p_FnSame (u0 : List UInt8) : ∃ N, m_laws_FnSame N u0 = some true := by
  refine ⟨200, ?_⟩
  unfold m_laws_FnSame
  by_cases c0 : ltb 1048576 ((u0.length : Nat) : Int) = true
  · rw [c0, cond_true]
  rw [Bool.not_eq_true] at c0
  rw [c0, cond_false]
  obtain ⟨f, g, h1, hf, hg⟩ := e_DrawFlowsSame (N := 200) (code := u0) (by omega)
  have hlf := hf.1
  rw [h1, Option.bind_some]
  simp only
  rw [e_impl_FlowsSame hf hg (by omega) (by omega), Option.bind_some, e_spec_FlowsSame hf hg (by omega) (by omega), Option.bind_some]
  simp only [bne_self_eq_false, cond_false, beq_self_eq_true]
  cases hs : sameF f g with
  | false => rfl
  | true =>
    obtain ⟨k1, k2, k3⟩ := sameF_steps hs
    have h0 := flow_some k1
    simp only [Bool.not_true, cond_false]
    rw [e_impl_RunNew hf (by omega) (by omega), Option.bind_some]
    simp only
    rw [e_impl_FitRun hf hg (by simp) (by omega) (by omega), Option.bind_some, e_impl_FlowsSame hg hf (by omega) (by omega), Option.bind_some, sameF_of k2 k1 k3.symm, cond_true, e_impl_FlowOrder hf (by omega) (by omega), Option.bind_some, e_impl_FlowOrder hg (by omega) (by omega), Option.bind_some, k1, k2, cond_true, cond_true, k3]
    have hl : (ordN g.steps g.steps.length []).length ≤ 8 := by
      have := ord_len (ord_ordN k2 g.steps.length [] (ord_nil _))
      rw [k3] at hlf
      omega
    rw [e_sameTexts (by omega), decide_eq_true rfl]
    have hr : fitRun f g ⟨0, []⟩ = (⟨0, []⟩, true) := by
      have e1 : runOk f ⟨0, []⟩ = true := by
        unfold runOk stOk
        rw [k1, ord_nil, eqb_true.2 rfl, cond_true, ltb_true.2 (by simp only [List.length_nil]; omega)]; rfl
      have e3 : eqb ((([] : List Str).length : Nat) : Int) ((g.steps.length : Nat) : Int) = false := eqb_false.2 (by rw [k3] at h0; simp only [List.length_nil]; omega)
      unfold fitRun
      rw [e1, k2]
      simp only
      rw [e3, ord_nil, eq00]
      rfl
    rw [hr]
    simp only [Option.bind_some, cond_true]
    rw [sameRun_self (by simp)]; rfl
end Go.Proofs.Ytlcckcifnpjbpaa
