/- Runs of flows: orders, states, fitting. -/
import Derived.Test.YtmnhnldnnniglaaGreatP6
import Derived.Test.YtmnhnldnnniglaaGreatP9
import Derived.Test.YtmnhnldnnniglaaGreatP12
set_option linter.all false
namespace Go.Proofs.YtmnhnldnnniglaaGreat

/-! ## Steps by name -/

theorem step_at {f : Flow} (h : flowOk f = true) {i : Nat} (hi : i < f.steps.length) : posOf (·.name) f.steps f.steps[i].name = i := by
  refine posOf_at (f := fun s : Step => s.name) hi rfl fun j hj e => ?_
  have hn := flow_nodup h
  rw [List.nodup_iff_pairwise_ne, List.pairwise_map, List.pairwise_iff_getElem] at hn
  exact hn j i (by omega) hi hj e

theorem has_free {f : Flow} (h : flowOk f = true) (d : List Str) {i : Nat} (hi : i < f.steps.length) : hasB ((f.steps.filter (free d)).map (·.name)) f.steps[i].name = free d f.steps[i] := by
  rw [Bool.eq_iff_iff, hasB_true]
  constructor
  · intro h1
    obtain ⟨t, ht, e⟩ := List.mem_map.1 h1
    rw [List.mem_filter] at ht
    obtain ⟨j, hj, rfl⟩ := List.getElem_of_mem ht.1
    have h2 := step_at h hj
    rw [e, step_at h hi] at h2
    have : i = j := by omega
    subst this
    exact ht.2
  · intro h1
    exact List.mem_map.2 ⟨_, List.mem_filter.2 ⟨List.getElem_mem hi, h1⟩, rfl⟩

theorem bad_free {f : Flow} (h : flowOk f = true) (done : List Str) (k : Nat) (y : Str) : badK f.steps done k y = !hasB ((f.steps.filter (free (done.take k))).map (·.name)) y := by
  cases hc : hasB (f.steps.map (·.name)) y with
  | false =>
    have : hasB ((f.steps.filter (free (done.take k))).map (·.name)) y = false := by
      rw [Bool.eq_false_iff] at hc ⊢
      intro h1
      rw [hasB_true] at h1
      obtain ⟨t, ht, e⟩ := List.mem_map.1 h1
      rw [List.mem_filter] at ht
      exact hc (hasB_true.2 (List.mem_map.2 ⟨t, ht.1, e⟩))
    unfold badK
    rw [hc, this]; rfl
  | true =>
    obtain ⟨s, hs, rfl⟩ := List.mem_map.1 (hasB_true.1 hc)
    obtain ⟨i, hi, rfl⟩ := List.getElem_of_mem hs
    rw [has_free h _ hi]
    unfold badK free
    rw [hc, step_at h hi, Int.toNat_natCast, List.getElem?_eq_getElem hi]
    simp only
    cases hasB (done.take k) f.steps[i].name <;> cases haveB (done.take k) f.steps[i].after <;> rfl

/-! ## Orders in which steps can be done -/

def ordOk (steps : List Step) (done : List Str) : Bool := allIdx (fun k y => !badK steps done k y) 0 done

theorem ord_at {steps : List Step} {done : List Str} : ordOk steps done = true ↔ ∀ i (h : i < done.length), badK steps done i done[i] = false := by
  unfold ordOk
  rw [allIdx_true]
  simp only [Nat.zero_add, Bool.not_eq_true']
theorem ord_mem {steps : List Step} {done : List Str} (h : ordOk steps done = true) : ∀ y ∈ done, hasB (steps.map (·.name)) y = true := by
  intro y hy
  obtain ⟨i, hi, rfl⟩ := List.getElem_of_mem hy
  have := ord_at.1 h i hi
  unfold badK at this
  rw [Bool.or_eq_false_iff, Bool.not_eq_false'] at this
  exact this.1
theorem ord_nodup {steps : List Step} {done : List Str} (h : ordOk steps done = true) : done.Nodup := by
  rw [List.nodup_iff_pairwise_ne, List.pairwise_iff_getElem]
  intro i j hi hj hij e
  have := ord_at.1 h j hj
  unfold badK at this
  rw [Bool.or_eq_false_iff, Bool.or_eq_false_iff] at this
  have h1 := this.2.1
  rw [Bool.eq_false_iff] at h1
  refine h1 (hasB_true.2 ?_)
  rw [← e, List.mem_take_iff_getElem]
  exact ⟨i, by omega, rfl⟩
theorem ord_len {steps : List Step} {done : List Str} (h : ordOk steps done = true) : done.length ≤ steps.length := by
  have := sub_len (a := done) (b := steps.map (·.name)) (ord_nodup h) fun x hx => hasB_true.1 (ord_mem h x hx)
  simpa using this
theorem ord_nil (steps : List Step) : ordOk steps [] = true := rfl

theorem bad_ord (steps : List Step) (done : List Str) : (badOf steps done).2 = !ordOk steps done := by
  unfold badOf
  rcases firstBad_cases steps done done 0 with ⟨h1, h2⟩ | ⟨i, hi, h1, h2, _⟩
  · have : ordOk steps done = true := ord_at.2 fun i hi => by simpa using h2 i hi
    rw [h1, this]; rfl
  · have : ordOk steps done = false := by
      rw [Bool.eq_false_iff]
      intro h3
      have := ord_at.1 h3 i hi
      rw [Nat.zero_add] at h2
      rw [h2] at this; cases this
    rw [h1, this]; rfl

/-! ## The last step that is done -/

def lastU (steps : List Step) (done : List Str) : Bool := match done.getLast? with | some y => (match steps[(posOf (·.name) steps y).toNat]? with | some s => s.undo | none => false) | none => false

theorem e_Flow_back {N B : Nat} {f : Flow} {done : List Str} (hf : smallF f B) (hN : B < N) (hm : ∀ y ∈ done, hasB (f.steps.map (·.name)) y = true) : m_impl_Flow_back N f done = some (bif lastU f.steps done then 1 else 3) := by
  have hl := hf.1
  unfold m_impl_Flow_back lastU
  rcases List.eq_nil_or_concat done with rfl | ⟨l, y, rfl⟩
  · rw [ltb_false.2 (by simp)]
    rfl
  · obtain ⟨i, hi, e⟩ := at_get (hm y (by simp))
    rw [List.concat_eq_append, ltb_true.2 (by simp only [List.length_append, List.length_singleton]; omega), cond_true, show (((l ++ [y]).length : Nat) : Int) - 1 = ((l.length : Nat) : Int) by simp, geti_nat, List.getElem?_append_right (by omega), Nat.sub_self, List.getLast?_concat]
    simp only [List.getElem?_cons_zero, Option.bind_some]
    rw [e_Flow_at (by omega), Option.bind_some, e, geti_nat, List.getElem?_eq_getElem hi, Option.bind_some, Int.toNat_natCast, List.getElem?_eq_getElem hi]
    simp only
    cases f.steps[i].undo <;> rfl

theorem e_Flow_forth {N : Nat} {f : Flow} {done : List Str} : m_impl_Flow_forth N f done = some (bif eqb ((done.length : Nat) : Int) ((f.steps.length : Nat) : Int) then 2 else 0) := by
  unfold m_impl_Flow_forth
  cases eqb ((done.length : Nat) : Int) ((f.steps.length : Nat) : Int) <;> rfl

theorem e_cloneNames {N : Nat} {l : List Str} (h : l.length ≤ 4000000000) : m_impl_cloneNames N l = some l := by
  unfold m_impl_cloneNames
  rw [appd_ok (by simp; omega)]
  rfl

/-! ## States -/

theorem eq00 : eqb 0 0 = true := eqb_true.2 (by decide)
theorem eq01 : eqb 0 1 = false := eqb_false.2 (by decide)
theorem eq02 : eqb 0 2 = false := eqb_false.2 (by decide)
theorem eq03 : eqb 0 3 = false := eqb_false.2 (by decide)
theorem eq10 : eqb 1 0 = false := eqb_false.2 (by decide)
theorem eq11 : eqb 1 1 = true := eqb_true.2 (by decide)
theorem eq12 : eqb 1 2 = false := eqb_false.2 (by decide)
theorem eq13 : eqb 1 3 = false := eqb_false.2 (by decide)
theorem eq20 : eqb 2 0 = false := eqb_false.2 (by decide)
theorem eq21 : eqb 2 1 = false := eqb_false.2 (by decide)
theorem eq22 : eqb 2 2 = true := eqb_true.2 (by decide)
theorem eq23 : eqb 2 3 = false := eqb_false.2 (by decide)
theorem eq30 : eqb 3 0 = false := eqb_false.2 (by decide)
theorem eq31 : eqb 3 1 = false := eqb_false.2 (by decide)
theorem eq32 : eqb 3 2 = false := eqb_false.2 (by decide)
theorem eq33 : eqb 3 3 = true := eqb_true.2 (by decide)

/-! ## Runs -/

def stOk (steps : List Step) (r : Run) : Bool :=
  bif eqb r.state 0 then ltb ((r.done.length : Nat) : Int) ((steps.length : Nat) : Int) else bif eqb r.state 2 then eqb ((r.done.length : Nat) : Int) ((steps.length : Nat) : Int)
  else bif eqb r.state 1 then ltb ((r.done.length : Nat) : Int) ((steps.length : Nat) : Int) && lastU steps r.done else bif eqb r.state 3 then ltb ((r.done.length : Nat) : Int) ((steps.length : Nat) : Int) && !lastU steps r.done else false
def runOk (f : Flow) (r : Run) : Bool := flowOk f && (ordOk f.steps r.done && stOk f.steps r)

theorem e_impl_RunValid {N B : Nat} {f : Flow} {r : Run} (hf : smallF f B) (hd : r.done.length ≤ B) (hB : B ≤ 4000000000 - 1) (hN : B < N) : m_impl_RunValid N f r = some (runOk f r) := by
  have hl := hf.1
  unfold m_impl_RunValid runOk
  rw [e_impl_FlowValid hf hB hN, Option.bind_some]
  cases hok : flowOk f with
  | false => rfl
  | true =>
    simp only [Bool.not_true, cond_false, Bool.true_and]
    rw [all_list (fun k y => !badK f.steps r.done k y) false (fun n k => m_impl_RunValid_L8 N f r n k) r.done (fun k => k) N (by omega) ?_ ?_, Option.bind_some]
    · rw [show allIdx (fun k y => !badK f.steps r.done k y) 0 r.done = ordOk f.steps r.done from rfl]
      cases ho : ordOk f.steps r.done with
      | false => rfl
      | true =>
        have hlen := ord_len ho
        simp only [cond_true, Ex.go, Bool.true_and]
        rw [e_Flow_forth, e_Flow_back hf hN (ord_mem ho)]
        unfold stOk
        simp only [Option.bind_some]
        by_cases h0 : r.state = 0
        · rw [h0]
          by_cases he : r.done.length = f.steps.length
          · rw [eqb_true.2 (show ((r.done.length : Nat) : Int) = _ by omega), ltb_false.2 (by omega)]; simp [eq00, eq01, eq02, eq03, eq10, eq11, eq12, eq13, eq20, eq21, eq22, eq23, eq30, eq31, eq32, eq33]
          · rw [eqb_false.2 (show ((r.done.length : Nat) : Int) ≠ _ by omega), ltb_true.2 (by omega)]; simp [eq00, eq01, eq02, eq03, eq10, eq11, eq12, eq13, eq20, eq21, eq22, eq23, eq30, eq31, eq32, eq33]
        by_cases h2 : r.state = 2
        · rw [h2]
          by_cases he : r.done.length = f.steps.length
          · rw [eqb_true.2 (show ((r.done.length : Nat) : Int) = _ by omega)]; simp [eq00, eq01, eq02, eq03, eq10, eq11, eq12, eq13, eq20, eq21, eq22, eq23, eq30, eq31, eq32, eq33]
          · rw [eqb_false.2 (show ((r.done.length : Nat) : Int) ≠ _ by omega)]; simp [eq00, eq01, eq02, eq03, eq10, eq11, eq12, eq13, eq20, eq21, eq22, eq23, eq30, eq31, eq32, eq33]
        rw [eqb_false.2 h0, eqb_false.2 h2]
        simp only [cond_false, Option.bind_some]
        by_cases h1 : r.state = 1
        · rw [h1]
          cases ltb ((r.done.length : Nat) : Int) ((f.steps.length : Nat) : Int) <;> cases lastU f.steps r.done <;> simp [eq00, eq01, eq02, eq03, eq10, eq11, eq12, eq13, eq20, eq21, eq22, eq23, eq30, eq31, eq32, eq33]
        by_cases h3 : r.state = 3
        · rw [h3]
          cases ltb ((r.done.length : Nat) : Int) ((f.steps.length : Nat) : Int) <;> cases lastU f.steps r.done <;> simp [eq00, eq01, eq02, eq03, eq10, eq11, eq12, eq13, eq20, eq21, eq22, eq23, eq30, eq31, eq32, eq33]
        rw [eqb_false.2 h1, eqb_false.2 h3]
        rfl
    · rintro n k rfl
      simp only [m_impl_RunValid_L8]
      rw [ltb_false.2 (by omega)]; rfl
    · intro n k h
      simp only [m_impl_RunValid_L8]
      rw [ltb_true.2 (by omega), cond_true, List.getElem?_eq_getElem h, Option.bind_some, slTo_nat (by omega), Option.bind_some, e_Flow_ready (by omega) (by simp; omega) (fun s hs => by have := (hf.2 s hs).2.1; omega) (by omega), Option.bind_some, e_Contains (by have := List.length_filter_le (free (r.done.take k)) f.steps; simp; omega), Option.bind_some, bad_free hok]
      cases hasB ((f.steps.filter (free (r.done.take k))).map (·.name)) r.done[k] <;> rfl

theorem left_loop {N : Nat} {steps : List Step} {done : List Str} (hs : steps.length < N) (hd : done.length ≤ 4000000000) (hm : ∀ y ∈ done, hasB (steps.map (·.name)) y = true) : ∀ (k n : Nat), k < n → k ≤ done.length →
    ∃ j : Nat, m_spec_l3Left_L4 N steps done n ((k : Nat) : Int) = some (.brk ((j : Nat) : Int)) ∧ j ≤ k ∧ (j = k ↔ lastU steps (done.take k) = false)
  | 0, n, hn, hk => by
    obtain ⟨n, rfl⟩ : ∃ n', n = n' + 1 := ⟨n - 1, by omega⟩
    simp only [m_spec_l3Left_L4]
    rw [ltb_false.2 (by omega)]
    exact ⟨0, rfl, by omega, by simp [lastU]⟩
  | k + 1, n, hn, hk => by
    obtain ⟨n, rfl⟩ : ∃ n', n = n' + 1 := ⟨n - 1, by omega⟩
    obtain ⟨i, hi, e⟩ := at_get (hm done[k] (List.getElem_mem (by omega)))
    simp only [m_spec_l3Left_L4]
    rw [ltb_true.2 (by omega), cond_true, w64_id (by omega), show ((k + 1 : Nat) : Int) - 1 = ((k : Nat) : Int) by omega, geti_nat, List.getElem?_eq_getElem (by omega), Option.bind_some, e_l2At hs, Option.bind_some, e, geti_nat, List.getElem?_eq_getElem hi, Option.bind_some]
    have e1 : lastU steps (done.take (k + 1)) = steps[i].undo := by
      unfold lastU
      rw [List.take_succ_eq_append_getElem (by omega), List.getLast?_concat]
      simp only
      rw [e, Int.toNat_natCast, List.getElem?_eq_getElem hi]
    rw [e1]
    cases steps[i].undo with
    | false => exact ⟨k + 1, rfl, by omega, by simp⟩
    | true =>
      obtain ⟨j, h1, h2, h3⟩ := left_loop hs hd hm k n (by omega) (by omega)
      refine ⟨j, h1, by omega, ?_⟩
      simp only [Bool.true_eq_false, iff_false]
      omega

theorem e_l3Left {N : Nat} {steps : List Step} {done : List Str} (hs : steps.length < N) (hd : done.length ≤ 4000000000) (hN : done.length < N) (hm : ∀ y ∈ done, hasB (steps.map (·.name)) y = true) :
    ∃ j : Nat, m_spec_l3Left N steps done = some ((j : Nat) : Int) ∧ j ≤ done.length ∧ (j = done.length ↔ lastU steps done = false) := by
  obtain ⟨j, h1, h2, h3⟩ := left_loop hs hd hm done.length N hN (Nat.le_refl _)
  unfold m_spec_l3Left
  rw [h1]
  exact ⟨j, rfl, h2, by rw [h3, List.take_length]⟩

theorem e_spec_RunValid {N B : Nat} {f : Flow} {r : Run} (hf : smallF f B) (hd : r.done.length ≤ B) (hB : B ≤ 4000000000 - 1) (hN : B < N) : m_spec_RunValid N f r = some (runOk f r) := by
  have hl := hf.1
  unfold m_spec_RunValid runOk
  rw [e_spec_FlowValid hf hB hN, Option.bind_some]
  cases hok : flowOk f with
  | false => rfl
  | true =>
    simp only [Bool.not_true, cond_false, Bool.true_and]
    rw [e_l3Order hf hd hN, Option.bind_some, show allIdx (fun k y => !badK f.steps r.done k y) 0 r.done = ordOk f.steps r.done from rfl]
    cases ho : ordOk f.steps r.done with
    | false => rfl
    | true =>
      obtain ⟨j, h1, h2, h3⟩ := e_l3Left (N := N) (steps := f.steps) (done := r.done) (by omega) (by omega) (by omega) (ord_mem ho)
      rw [h1]
      simp only [Bool.not_true, cond_false, Bool.true_and, Option.bind_some]
      unfold stOk
      have e1 : ltb ((j : Nat) : Int) ((r.done.length : Nat) : Int) = lastU f.steps r.done := by
        cases hu : lastU f.steps r.done with
        | false => exact ltb_false.2 (by have := h3.2 hu; omega)
        | true => exact ltb_true.2 (by have : j ≠ r.done.length := fun e => by rw [h3.1 e] at hu; cases hu
                                       omega)
      have e2 : eqb ((j : Nat) : Int) ((r.done.length : Nat) : Int) = !lastU f.steps r.done := by
        cases hu : lastU f.steps r.done with
        | false => exact eqb_true.2 (by have := h3.2 hu; omega)
        | true => exact eqb_false.2 (by have : j ≠ r.done.length := fun e => by rw [h3.1 e] at hu; cases hu
                                        omega)
      rw [e1, e2]
      cases eqb r.state 0 <;> cases eqb r.state 2 <;> cases eqb r.state 1 <;> cases eqb r.state 3 <;> cases ltb ((r.done.length : Nat) : Int) ((f.steps.length : Nat) : Int) <;> rfl

theorem e_l3Back {N : Nat} {f : Flow} {done : List Str} (hs : f.steps.length < N) (hd : done.length ≤ 4000000000) (hN : done.length < N) (hm : ∀ y ∈ done, hasB (f.steps.map (·.name)) y = true) : m_spec_l3Back N f done = some ⟨bif lastU f.steps done then 1 else 3, done⟩ := by
  obtain ⟨j, h1, h2, h3⟩ := e_l3Left (N := N) (steps := f.steps) (done := done) hs hd hN hm
  unfold m_spec_l3Back
  rw [appd_ok (by simp; omega), Option.bind_some, h1, Option.bind_some]
  cases hu : lastU f.steps done with
  | false => rw [eqb_true.2 (by have := h3.2 hu; omega)]; rfl
  | true => rw [eqb_false.2 (by have : j ≠ done.length := fun e => by rw [h3.1 e] at hu; cases hu
                                omega)]; rfl

/-! ## A run of one flow as one of another -/

def fitRun (f g : Flow) (r : Run) : Run × Bool :=
  bif runOk f r && (flowOk g && ordOk g.steps r.done) then
    (bif eqb r.state 0 || eqb r.state 2 then (⟨bif eqb ((r.done.length : Nat) : Int) ((g.steps.length : Nat) : Int) then 2 else 0, r.done⟩, true)
    else bif eqb ((r.done.length : Nat) : Int) ((g.steps.length : Nat) : Int) then (⟨0, []⟩, false) else (⟨bif lastU g.steps r.done then 1 else 3, r.done⟩, true))
  else (⟨0, []⟩, false)

end Go.Proofs.YtmnhnldnnniglaaGreat
