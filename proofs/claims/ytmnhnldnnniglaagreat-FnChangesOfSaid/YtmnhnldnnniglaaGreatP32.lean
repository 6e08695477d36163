/- Changes that lead to another flow: the law and what both sides reckon. -/
import Derived.Test.YtmnhnldnnniglaaGreatP31
set_option linter.all false
namespace Go.Proofs.YtmnhnldnnniglaaGreat

theorem has_leb {steps : List Step} {n : Str} : leb 0 (posOf (·.name) steps n) = hasB (steps.map (·.name)) n := by
  have := hasB_map (f := fun x : Step => x.name) (l := steps) (s := n)
  rw [leb_not, this, Bool.not_not]

theorem made_len (f g : Flow) (n : Str) : (madeOf f g n).length ≤ 2 := by
  unfold madeOf
  cases hasB (f.steps.map (·.name)) n with
  | false => simp
  | true =>
    simp only [Bool.not_true, cond_false, List.length_append]
    cases ltb 0 (((stepOf g.steps n).after.length : Nat) : Int) && !decide ((stepOf g.steps n).after = (stepOf f.steps n).after) <;> cases (stepOf g.steps n).undo != (stepOf f.steps n).undo <;> simp

def freeOf (g : Flow) (s : Step) : List Change := bif freeP g s then [⟨3, ⟨s.name, [], false⟩⟩] else []
def goneOf (g : Flow) (n : Str) : List Change := bif !hasB (g.steps.map (·.name)) n then [⟨2, ⟨n, [], false⟩⟩] else []
theorem chFree_eq (f g : Flow) : chFree f g = f.steps.flatMap (freeOf g) := (flat_filter (freeP g) (fun s => (⟨3, ⟨s.name, [], false⟩⟩ : Change)) f.steps).symm
theorem chGone_eq (f g : Flow) : chGone f g = ((ordN f.steps f.steps.length []).reverse).flatMap (goneOf g) := (flat_filter (fun n => !hasB (g.steps.map (fun s : Step => s.name)) n) (fun n => (⟨2, ⟨n, [], false⟩⟩ : Change)) _).symm
theorem free_len (g : Flow) (s : Step) : (freeOf g s).length ≤ 1 := by unfold freeOf; cases freeP g s <;> simp
theorem gone_len (g : Flow) (n : Str) : (goneOf g n).length ≤ 1 := by unfold goneOf; cases hasB (g.steps.map (·.name)) n <;> simp
theorem flat_len {α γ : Type} {g : α → List γ} {C : Nat} : ∀ {l : List α}, (∀ x ∈ l, (g x).length ≤ C) → (l.flatMap g).length ≤ C * l.length
  | [], _ => by simp
  | x :: t, h => by
    have h1 := h x (by simp)
    have h2 := flat_len (l := t) (fun y hy => h y (by simp [hy]))
    rw [List.flatMap_cons, List.length_append, List.length_cons, Nat.mul_add, Nat.mul_one]
    omega

theorem e_l12Free {N B : Nat} {f g : Flow} (hf : smallF f B) (hg : smallF g B) (hB : B ≤ 1000000000) (hN : B < N) : m_spec_l12Free N f g = some (chFree f g) := by
  have h0 := hf.1; have h1 := hg.1
  unfold m_spec_l12Free
  rw [chFree_eq, flat_list (freeOf g) (fun n s k => m_spec_l12Free_L6 N f g n s k) f.steps (fun k s => (s, k)) N (by omega) [] 1 (fun s _ => free_len g s) ?_ ?_]
  · simp [Ex.go]
  · rintro n s k rfl
    simp only [m_spec_l12Free_L6]
    rw [ltb_false.2 (by omega)]; rfl
  · intro n s k h hs
    simp only [m_spec_l12Free_L6]
    rw [ltb_true.2 (by omega), cond_true, List.getElem?_eq_getElem h, Option.bind_some, e_l2At (by omega), Option.bind_some, has_leb]
    unfold freeOf freeP
    cases hc : hasB (g.steps.map (·.name)) f.steps[k].name with
    | false => simp
    | true =>
      cases ltb 0 ((f.steps[k].after.length : Nat) : Int) with
      | false => simp
      | true =>
        have hal := (hf.2 _ (List.getElem_mem h)).2.1
        simp only [cond_true, Bool.true_and]
        rw [get_stepOf hc, Option.bind_some, e_l12Same (by omega), Option.bind_some]
        have e : stepEq f.steps[k] (Step.mk f.steps[k].name (stepOf g.steps f.steps[k].name).after f.steps[k].undo) = decide (f.steps[k].after = (stepOf g.steps f.steps[k].name).after) := by
          unfold stepEq
          rw [seq_self, beq_self_eq_true]; rfl
        rw [e, appd_ok (by simp at hs ⊢; omega)]
        cases decide (f.steps[k].after = (stepOf g.steps f.steps[k].name).after) <;> simp

theorem gone_loop {N : Nat} {f g : Flow} {x : List Str} (hg : g.steps.length < N) (hx : x.length ≤ 1000000000) : ∀ (k n : Nat) (s : List Change), k < n → k ≤ x.length → s.length + k ≤ 2000000000 → ∃ j, m_spec_l12Gone_L7 N g x n s (((k : Nat) : Int) - 1) = some (.brk (s ++ ((x.take k).reverse).flatMap (goneOf g), j))
  | 0, n, s, hn, hk, hs => by
    obtain ⟨n, rfl⟩ : ∃ n', n = n' + 1 := ⟨n - 1, by omega⟩
    refine ⟨((0 : Nat) : Int) - 1, ?_⟩
    simp only [m_spec_l12Gone_L7]
    rw [leb_false.2 (by omega), cond_false]
    simp
  | k + 1, n, s, hn, hk, hs => by
    obtain ⟨n, rfl⟩ : ∃ n', n = n' + 1 := ⟨n - 1, by omega⟩
    simp only [m_spec_l12Gone_L7]
    rw [leb_true.2 (by omega), cond_true, show ((k + 1 : Nat) : Int) - 1 = ((k : Nat) : Int) by omega, geti_nat, List.getElem?_eq_getElem (by omega), Option.bind_some, e_l2At hg, Option.bind_some, hasB_map, w64_id (by omega), appd_ok (by simp; omega), Option.bind_some]
    have e : (x.take (k + 1)).reverse = x[k] :: (x.take k).reverse := by rw [List.take_succ_eq_append_getElem (by omega), List.reverse_append]; rfl
    rw [e, List.flatMap_cons]
    have hgo : goneOf g x[k] = bif !hasB (g.steps.map (·.name)) x[k] then [⟨2, ⟨x[k], [], false⟩⟩] else [] := rfl
    rw [hgo]
    cases hasB (g.steps.map (·.name)) x[k] with
    | true =>
      obtain ⟨j, h⟩ := gone_loop (f := f) hg hx k n s (by omega) (by omega) (by omega)
      exact ⟨j, by simpa using h⟩
    | false =>
      obtain ⟨j, h⟩ := gone_loop (f := f) hg hx k n (s ++ [⟨2, ⟨x[k], [], false⟩⟩]) (by omega) (by omega) (by simp; omega)
      exact ⟨j, by simpa using h⟩

theorem flow_ne {f : Flow} (hok : flowOk f = true) : ∀ s ∈ f.steps, s.name ≠ ⟨#[]⟩ := fun s hs => by
  unfold flowOk at hok
  rw [Bool.and_eq_true] at hok
  obtain ⟨i, hi, rfl⟩ := List.getElem_of_mem hs
  have := allIdx_true.1 hok.1 i hi
  unfold flowStep at this
  simp only [Bool.and_eq_true] at this
  exact nameOk_ne (stepOk_name this.1)
theorem ord_le {f : Flow} (hok : flowOk f = true) : (ordN f.steps f.steps.length []).length ≤ f.steps.length := ord_len (ord_ordN hok _ [] (ord_nil _))

theorem e_l12Gone {N B : Nat} {f g : Flow} (hf : smallF f B) (hg : smallF g B) (hB : B ≤ 1000000000) (hN : B < N) (hok : flowOk f = true) : m_spec_l12Gone N f g = some (chGone f g) := by
  have h0 := hf.1; have h1 := hg.1
  have hl := ord_le hok
  unfold m_spec_l12Gone
  rw [e_l2Order (by omega) (fun s hs => by have := (hf.2 s hs).2.1; omega) (by omega) (flow_ne hok), Option.bind_some]
  obtain ⟨j, h⟩ := gone_loop (N := N) (f := f) (g := g) (x := ordN f.steps f.steps.length []) (by omega) (by omega) (ordN f.steps f.steps.length []).length N [] (by omega) (Nat.le_refl _) (by simp; omega)
  rw [h, List.take_length, chGone_eq]
  simp [Ex.go]

theorem e_l12Made {N B : Nat} {f g : Flow} (hf : smallF f B) (hg : smallF g B) (hB : B ≤ 1000000000) (hN : B < N) (hok : flowOk g = true) : m_spec_l12Made N f g = some (chMade f g) := by
  have h0 := hf.1; have h1 := hg.1
  have hl := ord_le hok
  have hall := ord_mem (ord_ordN hok g.steps.length [] (ord_nil _))
  unfold m_spec_l12Made
  rw [e_l2Order (by omega) (fun s hs => by have := (hg.2 s hs).2.1; omega) (by omega) (flow_ne hok), Option.bind_some]
  rw [flat_list (madeOf f g) (fun n s k => m_spec_l12Made_L7 N f g (ordN g.steps g.steps.length []) n s k) (ordN g.steps g.steps.length []) (fun k s => (s, k)) N (by omega) [] 2 (fun n _ => made_len f g n) ?_ ?_]
  · simp [Ex.go, chMade]
  · rintro n s k rfl
    simp only [m_spec_l12Made_L7]
    rw [ltb_false.2 (by omega)]; rfl
  · intro n s k h hs
    have hin := hall _ (List.getElem_mem h)
    have hm := stepOf_mem hin
    have hal := (hg.2 _ hm.1).2.1
    simp only [List.length_nil, Nat.zero_add] at hs
    simp only [m_spec_l12Made_L7]
    rw [ltb_true.2 (by omega), cond_true, List.getElem?_eq_getElem h, Option.bind_some, e_l2At (by omega), Option.bind_some, get_stepOf hin, Option.bind_some, e_l2At (by omega), Option.bind_some, hm.2, hasB_map]
    unfold madeOf
    generalize (ordN g.steps g.steps.length [])[k] = y at *
    cases hc : hasB (f.steps.map (·.name)) y with
    | false =>
      simp only [Bool.not_false, cond_true]
      rw [e_l2StepB (by omega), Option.bind_some, appd_ok (by simp; omega)]; rfl
    | true =>
      have hm2 := stepOf_mem hc
      have hal2 := (hf.2 _ hm2.1).2.1
      simp only [Bool.not_true, cond_false]
      rw [get_stepOf hc, Option.bind_some, e_l12Same (by omega)]
      have e : stepEq (stepOf f.steps y) (Step.mk y (stepOf g.steps y).after (stepOf f.steps y).undo) = decide ((stepOf g.steps y).after = (stepOf f.steps y).after) := by
        unfold stepEq
        rw [hm2.2, seq_self, beq_self_eq_true]
        simp [eq_comm]
      rw [e]
      have a1 : appd s [(⟨3, ⟨y, (stepOf g.steps y).after, false⟩⟩ : Change)] = some (s ++ [⟨3, ⟨y, (stepOf g.steps y).after, false⟩⟩]) := appd_ok (by simp; omega)
      have a2 : appd (s ++ [(⟨3, ⟨y, (stepOf g.steps y).after, false⟩⟩ : Change)]) [(⟨4, ⟨y, [], (stepOf g.steps y).undo⟩⟩ : Change)] = some (s ++ [⟨3, ⟨y, (stepOf g.steps y).after, false⟩⟩] ++ [⟨4, ⟨y, [], (stepOf g.steps y).undo⟩⟩]) := appd_ok (by simp; omega)
      have a3 : appd s [(⟨4, ⟨y, [], (stepOf g.steps y).undo⟩⟩ : Change)] = some (s ++ [⟨4, ⟨y, [], (stepOf g.steps y).undo⟩⟩]) := appd_ok (by simp; omega)
      have c1 : m_spec_l2Step N (Step.mk y (stepOf g.steps y).after false) = some ⟨y, (stepOf g.steps y).after, false⟩ := e_l2StepB (by simp only; omega)
      have eu : ((stepOf f.steps y).undo != (stepOf g.steps y).undo) = ((stepOf g.steps y).undo != (stepOf f.steps y).undo) := by cases (stepOf f.steps y).undo <;> cases (stepOf g.steps y).undo <;> rfl
      rw [eu]
      cases ltb 0 (((stepOf g.steps y).after.length : Nat) : Int) <;> cases decide ((stepOf g.steps y).after = (stepOf f.steps y).after) <;> cases (stepOf g.steps y).undo != (stepOf f.steps y).undo <;> simp [c1, a1, a2, a3]

theorem e_spec_ChangesOf {N B : Nat} {f g : Flow} (hf : smallF f B) (hg : smallF g B) (hB : B ≤ 100000000) (hN : B < N) : m_spec_ChangesOf N f g = some (chOf f g) := by
  have h0 := hf.1; have h1 := hg.1
  unfold m_spec_ChangesOf chOf
  rw [e_spec_FlowValid hf (by omega) hN, Option.bind_some, e_spec_FlowValid hg (by omega) hN]
  cases hok : flowOk f with
  | false => rfl
  | true =>
    cases hok2 : flowOk g with
    | false => rfl
    | true =>
      simp only [Bool.not_true, cond_false, Option.bind_some, Bool.true_and]
      rw [e_spec_l12Both (by omega) (by omega), Option.bind_some]
      cases bothF f g with
      | false => rfl
      | true =>
        simp only [Bool.not_true, cond_false, cond_true]
        have l1 : (chFree f g).length ≤ 1 * f.steps.length := by rw [chFree_eq]; exact flat_len fun s _ => free_len g s
        have l2 : (chGone f g).length ≤ 1 * f.steps.length := by rw [chGone_eq]; have := flat_len (l := (ordN f.steps f.steps.length []).reverse) (fun n _ => gone_len g n); have := ord_le hok; simp only [List.length_reverse] at *; omega
        have l3 : (chMade f g).length ≤ 2 * g.steps.length := by have := flat_len (l := ordN g.steps g.steps.length []) (fun n _ => made_len f g n); have := ord_le hok2; unfold chMade; omega
        rw [e_l12Free hf hg (by omega) hN, Option.bind_some, e_l12Gone hf hg (by omega) hN hok, Option.bind_some, appd_ok (by omega), Option.bind_some, e_l12Made hf hg (by omega) hN hok2, Option.bind_some, appd_ok (by rw [List.length_append]; omega)]
        rfl

theorem e_impl_ChangesOf {N B : Nat} {f g : Flow} (hf : smallF f B) (hg : smallF g B) (hB : B ≤ 100000000) (hN : B < N) : m_impl_ChangesOf N f g = some (chOf f g) := by
  have h0 := hf.1; have h1 := hg.1
  unfold m_impl_ChangesOf chOf
  rw [e_impl_FlowValid hf (by omega) hN, Option.bind_some, e_impl_FlowValid hg (by omega) hN]
  cases hok : flowOk f with
  | false => rfl
  | true =>
    cases hok2 : flowOk g with
    | false => rfl
    | true =>
      simp only [Bool.not_true, cond_false, Option.bind_some, Bool.true_and]
      rw [e_Flow_names (by omega) (by omega), Option.bind_some]
      have hboth : m_slices_ContainsFunc_string N (f.steps.map (·.name)) (fun x0 => m_impl_ChangesOf_f1 N x0 g) = some (bothF f g) := by
        unfold m_slices_ContainsFunc_string m_slices_IndexFunc_string bothF
        rw [find_list (hasB (g.steps.map (·.name))) (fun k => (k : Int)) (fun n k => m_slices_IndexFunc_string_L4 N (f.steps.map (·.name)) (fun x0 => m_impl_ChangesOf_f1 N x0 g) n k) (f.steps.map (·.name)) (fun k => k) N (by simp; omega) ?_ ?_, Option.bind_some]
        · cases h : (f.steps.map (·.name)).findIdx? (hasB (g.steps.map (·.name))) with
          | none =>
            have : (f.steps.map (·.name)).any (hasB (g.steps.map (·.name))) = false := by
              rw [List.any_eq_false]
              intro x hx
              have := List.findIdx?_eq_none_iff.1 h x hx
              simp [this]
            rw [this]
            simp only [Ex.go, Option.bind_some]
            rw [leb_false.2 (by omega)]
          | some i =>
            obtain ⟨hi, h1, _⟩ := List.findIdx?_eq_some_iff_getElem.1 h
            have : (f.steps.map (·.name)).any (hasB (g.steps.map (·.name))) = true := List.any_eq_true.2 ⟨_, List.getElem_mem hi, h1⟩
            rw [this]
            simp only [Ex.go, Option.bind_some]
            rw [leb_true.2 (by omega)]
        · rintro n k rfl
          simp only [m_slices_IndexFunc_string_L4]
          rw [ltb_false.2 (by omega)]; rfl
        · intro n k h
          simp only [m_slices_IndexFunc_string_L4, m_impl_ChangesOf_f1]
          rw [ltb_true.2 (by omega), cond_true, List.getElem?_eq_getElem h, Option.bind_some, e_Flow_at (by omega), Option.bind_some, has_leb, Option.bind_some]
      rw [hboth, Option.bind_some]
      cases bothF f g with
      | false => rfl
      | true =>
        simp only [Bool.not_true, cond_false, cond_true]
        have lo := ord_le hok; have lo2 := ord_le hok2
        have hall := ord_mem (ord_ordN hok2 g.steps.length [] (ord_nil _))
        have l1 : (chFree f g).length ≤ 1 * f.steps.length := by rw [chFree_eq]; exact flat_len fun s _ => free_len g s
        have l2 : (chGone f g).length ≤ 1 * f.steps.length := by rw [chGone_eq]; have := flat_len (l := (ordN f.steps f.steps.length []).reverse) (fun n _ => gone_len g n); simp only [List.length_reverse] at *; omega
        have loop1 : m_impl_ChangesOf_L12 N f g N ([] : List Change) 0 = some (.brk (chFree f g, f.steps.length)) := by
          rw [chFree_eq, flat_list (freeOf g) (fun n s k => m_impl_ChangesOf_L12 N f g n s k) f.steps (fun k s => (s, k)) N (by omega) [] 1 (fun s _ => free_len g s) ?_ ?_]
          · simp
          · rintro n s k rfl
            simp only [m_impl_ChangesOf_L12]
            rw [ltb_false.2 (by omega)]; rfl
          · intro n s k h hs
            simp only [List.length_nil, Nat.zero_add] at hs
            simp only [m_impl_ChangesOf_L12]
            rw [ltb_true.2 (by omega), cond_true, List.getElem?_eq_getElem h, Option.bind_some, e_Flow_at (by omega), Option.bind_some, has_leb]
            unfold freeOf freeP
            cases hc : hasB (g.steps.map (·.name)) f.steps[k].name with
            | false => simp
            | true =>
              cases ltb 0 ((f.steps[k].after.length : Nat) : Int) with
              | false => simp
              | true =>
                have hal := (hf.2 _ (List.getElem_mem h)).2.1
                simp only [cond_true, Bool.true_and]
                rw [get_stepOf hc, Option.bind_some, e_Equal_string (by omega), Option.bind_some, e_put (by simp) (by omega)]
                cases decide (f.steps[k].after = (stepOf g.steps f.steps[k].name).after) <;> simp
        have loop2 : m_impl_ChangesOf_L24 N g (ordN f.steps f.steps.length []) ((), (ordN f.steps f.steps.length []).reverse) N (chFree f g) 0 = some (.brk (chFree f g ++ chGone f g, (ordN f.steps f.steps.length []).reverse.length)) := by
          rw [chGone_eq, flat_list (goneOf g) (fun n s k => m_impl_ChangesOf_L24 N g (ordN f.steps f.steps.length []) ((), (ordN f.steps f.steps.length []).reverse) n s k) (ordN f.steps f.steps.length []).reverse (fun k s => (s, k)) N (by simp; omega) (chFree f g) 1 (fun s _ => gone_len g s) ?_ ?_]
          · rintro n s k rfl
            simp only [m_impl_ChangesOf_L24]
            rw [ltb_false.2 (by simp)]; rfl
          · intro n s k h hs
            have hk : k < (ordN f.steps f.steps.length []).length := by simpa using h
            simp only [m_impl_ChangesOf_L24]
            rw [ltb_true.2 (by omega), cond_true, List.getElem?_eq_getElem h, Option.bind_some, e_Flow_at (by omega), Option.bind_some, hasB_map, e_put (by simp) (by omega)]
            unfold goneOf
            cases hasB (g.steps.map (·.name)) (ordN f.steps f.steps.length []).reverse[k] <;> simp
        have loop3 : m_impl_ChangesOf_L37 N f g (ordN g.steps g.steps.length []) N (chFree f g ++ chGone f g) 0 = some (.brk (chFree f g ++ chGone f g ++ chMade f g, (ordN g.steps g.steps.length []).length)) := by
          unfold chMade
          rw [flat_list (madeOf f g) (fun n s k => m_impl_ChangesOf_L37 N f g (ordN g.steps g.steps.length []) n s k) (ordN g.steps g.steps.length []) (fun k s => (s, k)) N (by omega) (chFree f g ++ chGone f g) 2 (fun n _ => made_len f g n) ?_ ?_]
          · rintro n s k rfl
            simp only [m_impl_ChangesOf_L37]
            rw [ltb_false.2 (by omega)]; rfl
          · intro n s k h hs
            have hin := hall _ (List.getElem_mem h)
            have hm := stepOf_mem hin
            have hal := (hg.2 _ hm.1).2.1
            rw [List.length_append] at hs
            simp only [m_impl_ChangesOf_L37]
            rw [ltb_true.2 (by omega), cond_true, List.getElem?_eq_getElem h, Option.bind_some, e_Flow_at (by omega), Option.bind_some, get_stepOf hin, Option.bind_some, e_Flow_at (by omega), Option.bind_some, hasB_map]
            unfold madeOf
            generalize (ordN g.steps g.steps.length [])[k] = y at *
            cases hc : hasB (f.steps.map (·.name)) y with
            | false =>
              simp only [Bool.not_false, cond_true]
              rw [e_put (by omega) (by omega)]; rfl
            | true =>
              have hm2 := stepOf_mem hc
              have hal2 := (hf.2 _ hm2.1).2.1
              simp only [Bool.not_true, cond_false]
              rw [get_stepOf hc]
              simp only [Option.bind_some]
              rw [e_Equal_string (by omega)]
              have a1 : m_impl_ChangesOf_f2 N 3 (Step.mk y (stepOf g.steps y).after false) s = some (s ++ [⟨3, ⟨y, (stepOf g.steps y).after, false⟩⟩]) := e_put (by simp only; omega) (by omega)
              have a2 : m_impl_ChangesOf_f2 N 4 (Step.mk y [] (stepOf g.steps y).undo) (s ++ [(⟨3, ⟨y, (stepOf g.steps y).after, false⟩⟩ : Change)]) = some (s ++ [⟨3, ⟨y, (stepOf g.steps y).after, false⟩⟩] ++ [⟨4, ⟨y, [], (stepOf g.steps y).undo⟩⟩]) := e_put (by simp) (by simp; omega)
              have a3 : m_impl_ChangesOf_f2 N 4 (Step.mk y [] (stepOf g.steps y).undo) s = some (s ++ [⟨4, ⟨y, [], (stepOf g.steps y).undo⟩⟩]) := e_put (by simp) (by omega)
              cases ltb 0 (((stepOf g.steps y).after.length : Nat) : Int) <;> cases decide ((stepOf g.steps y).after = (stepOf f.steps y).after) <;> cases (stepOf g.steps y).undo != (stepOf f.steps y).undo <;> simp [a1, a2, a3]
        rw [loop1]
        simp only [Option.bind_some, Ex.go]
        rw [e_Flow_order (by omega) (fun s hs => by have := (hf.2 s hs).2.1; omega) (by omega), Option.bind_some, e_Reverse (by omega) (by omega), Option.bind_some, loop2]
        simp only [Option.bind_some, Ex.go]
        rw [e_Flow_order (by omega) (fun s hs => by have := (hg.2 s hs).2.1; omega) (by omega), Option.bind_some, loop3]
        rfl
end Go.Proofs.YtmnhnldnnniglaaGreat
