/- What is new is added, what is gone is dropped: the kinds of changes. -/
import Derived.Test.YtmnhnldnnniglaaP33
import Derived.Test.YtmnhnldnnniglaaP42
import Derived.Test.YtmnhnldnnniglaaP44
set_option linter.all false
namespace Go.Proofs.Ytmnhnldnnniglaa

theorem join_nodup {l : List Str} (h : l.Nodup) : (joinL l).length = l.length := by
  have h1 := join_len l
  have h2 := sub_len (a := l) (b := joinL l) h (fun x hx => join_mem.2 hx)
  omega
def kindN (k : Int) (l : List Change) : List Str := (l.filter fun c => eqb c.kind k).map (·.step.name)
theorem kindN_append (k : Int) (l m : List Change) : kindN k (l ++ m) = kindN k l ++ kindN k m := by unfold kindN; rw [List.filter_append, List.map_append]
theorem kindN_none {k : Int} {l : List Change} (h : ∀ c ∈ l, c.kind ≠ k) : kindN k l = [] := by
  unfold kindN
  rw [filter_none fun c hc => eqb_false.2 (h c hc)]; rfl
theorem kindN_all {k : Int} {l : List Change} (h : ∀ c ∈ l, c.kind = k) : kindN k l = l.map (·.step.name) := by
  unfold kindN
  rw [List.filter_eq_self.2 fun c hc => eqb_true.2 (h c hc)]
theorem free_kind {f g : Flow} : ∀ c ∈ chFree f g, c.kind = 3 := fun c hc => by
  unfold chFree at hc
  obtain ⟨s, _, rfl⟩ := List.mem_map.1 hc
  rfl
theorem gone_kind {f g : Flow} : ∀ c ∈ chGone f g, c.kind = 2 := fun c hc => by
  unfold chGone at hc
  obtain ⟨s, _, rfl⟩ := List.mem_map.1 hc
  rfl
theorem made_kinds {f g : Flow} {n : Str} : (kindN 2 (madeOf f g n) = []) ∧ (kindN 1 (madeOf f g n) = bif !hasB (f.steps.map (·.name)) n then [(stepOf g.steps n).name] else []) := by
  have e11 : eqb (1 : Int) 1 = true := eqb_true.2 rfl
  have e12 : eqb (1 : Int) 2 = false := eqb_false.2 (by omega)
  have e31 : eqb (3 : Int) 1 = false := eqb_false.2 (by omega)
  have e32 : eqb (3 : Int) 2 = false := eqb_false.2 (by omega)
  have e41 : eqb (4 : Int) 1 = false := eqb_false.2 (by omega)
  have e42 : eqb (4 : Int) 2 = false := eqb_false.2 (by omega)
  unfold madeOf
  cases hasB (f.steps.map (·.name)) n with
  | false => exact ⟨by simp [kindN, e12], by simp [kindN, e11]⟩
  | true =>
    simp only [Bool.not_true, cond_false, kindN_append]
    refine ⟨?_, ?_⟩
    · cases (ltb 0 (((stepOf g.steps n).after.length : Nat) : Int) && !decide ((stepOf g.steps n).after = (stepOf f.steps n).after)) <;> cases ((stepOf g.steps n).undo != (stepOf f.steps n).undo) <;> simp [kindN, e32, e42]
    · cases (ltb 0 (((stepOf g.steps n).after.length : Nat) : Int) && !decide ((stepOf g.steps n).after = (stepOf f.steps n).after)) <;> cases ((stepOf g.steps n).undo != (stepOf f.steps n).undo) <;> simp [kindN, e31, e41]

def addedL (f g : Flow) : List Str := (ordN g.steps g.steps.length []).filter fun n => !hasB (f.steps.map (·.name)) n
def goneL (f g : Flow) : List Str := (ordN f.steps f.steps.length []).reverse.filter fun n => !hasB (g.steps.map (·.name)) n
theorem kinds_all {f g : Flow} (hf : flowOk f = true) (hg : flowOk g = true) : kindN 1 (chFree f g ++ chGone f g ++ chMade f g) = addedL f g ∧ kindN 2 (chFree f g ++ chGone f g ++ chMade f g) = goneL f g := by
  rw [kindN_append, kindN_append, kindN_append, kindN_append]
  rw [kindN_none (k := 1) fun c hc => by rw [free_kind c hc]; omega, kindN_none (k := 2) fun c hc => by rw [free_kind c hc]; omega]
  rw [kindN_none (k := 1) fun c hc => by rw [gone_kind c hc]; omega, kindN_all (k := 2) gone_kind]
  have hall : ∀ n ∈ ordN g.steps g.steps.length [], hasS g.steps n = true := ord_mem (ord_ordN hg _ [] (ord_nil _))
  have m2 : ∀ l : List Str, kindN 2 (l.flatMap (madeOf f g)) = [] := by
    intro l
    induction l with
    | nil => rfl
    | cons n l ih => rw [List.flatMap_cons, kindN_append, ih, made_kinds.1]; rfl
  have m1 : ∀ l : List Str, (∀ n ∈ l, hasS g.steps n = true) → kindN 1 (l.flatMap (madeOf f g)) = l.filter fun n => !hasB (f.steps.map (·.name)) n := by
    intro l
    induction l with
    | nil => intro _; rfl
    | cons n l ih =>
      intro h
      rw [List.flatMap_cons, kindN_append, ih (fun x hx => h x (by simp [hx])), made_kinds.2, List.filter_cons, (stepOf_in (h n (by simp))).2]
      cases hasB (f.steps.map (·.name)) n <;> simp
  unfold chMade addedL goneL chGone
  rw [m2, m1 _ hall]
  refine ⟨by simp, ?_⟩
  rw [List.map_map]
  have e : ((fun x : Change => x.step.name) ∘ fun n : Str => (⟨2, ⟨n, [], false⟩⟩ : Change)) = id := rfl
  rw [e, List.map_id]
  simp
theorem added_sort {f g : Flow} (hf : flowOk f = true) (hg : flowOk g = true) : joinL (addedL f g) = newF g f ∧ (joinL (addedL f g)).length = (addedL f g).length := by
  have ho := ord_ordN hg g.steps.length [] (ord_nil _)
  refine ⟨?_, join_nodup ((ord_nodup ho).filter _)⟩
  unfold newF
  rw [hf, hg]
  refine ascK_unique (key := id) (join_asc _) (ascK_names (key := nameK) ((flow_ascK hg).filter _)) fun x => ?_
  rw [join_mem]
  unfold addedL
  rw [List.mem_filter]
  constructor
  · rintro ⟨h1, h2⟩
    have h3 := stepOf_in (show hasS g.steps x = true from ord_mem ho x h1)
    exact List.mem_map.2 ⟨_, List.mem_filter.2 ⟨h3.1, by unfold newS; rw [h3.2]; exact h2⟩, h3.2⟩
  · intro h
    obtain ⟨s, hs, rfl⟩ := List.mem_map.1 h
    obtain ⟨h1, h2⟩ := List.mem_filter.1 hs
    exact ⟨ord_all hg s h1, h2⟩
theorem gone_sort {f g : Flow} (hf : flowOk f = true) (hg : flowOk g = true) : joinL (goneL f g) = newF f g ∧ (joinL (goneL f g)).length = (goneL f g).length := by
  have ho := ord_ordN hf f.steps.length [] (ord_nil _)
  refine ⟨?_, join_nodup ((List.pairwise_reverse.2 (List.Pairwise.imp (fun h => Ne.symm h) (ord_nodup ho))).filter _)⟩
  unfold newF
  rw [hf, hg]
  refine ascK_unique (key := id) (join_asc _) (ascK_names (key := nameK) ((flow_ascK hf).filter _)) fun x => ?_
  rw [join_mem]
  unfold goneL
  rw [List.mem_filter, List.mem_reverse]
  constructor
  · rintro ⟨h1, h2⟩
    have h3 := stepOf_in (show hasS f.steps x = true from ord_mem ho x h1)
    exact List.mem_map.2 ⟨_, List.mem_filter.2 ⟨h3.1, by unfold newS; rw [h3.2]; exact h2⟩, h3.2⟩
  · intro h
    obtain ⟨s, hs, rfl⟩ := List.mem_map.1 h
    obtain ⟨h1, h2⟩ := List.mem_filter.1 hs
    exact ⟨ord_all hf s h1, h2⟩
theorem added_ok {f g : Flow} (hg : flowOk g = true) : (∀ x ∈ addedL f g, nameOk x = true) ∧ (addedL f g).length ≤ 8 := by
  have ho := ord_ordN hg g.steps.length [] (ord_nil _)
  have hl := ord_len ho
  have h8 := (flow_small hg).1
  refine ⟨fun x hx => ?_, Nat.le_trans (List.length_filter_le _ _) (by omega)⟩
  have h3 := stepOf_in (show hasS g.steps x = true from ord_mem ho x (List.mem_filter.1 hx).1)
  rw [← h3.2]
  exact stepOk_name (flow_have hg h3.1).1
theorem gone_ok {f g : Flow} (hf : flowOk f = true) : (∀ x ∈ goneL f g, nameOk x = true) ∧ (goneL f g).length ≤ 8 := by
  have ho := ord_ordN hf f.steps.length [] (ord_nil _)
  have hl := ord_len ho
  have h8 := (flow_small hf).1
  refine ⟨fun x hx => ?_, Nat.le_trans (List.length_filter_le _ _) (by rw [List.length_reverse]; omega)⟩
  have h3 := stepOf_in (show hasS f.steps x = true from ord_mem ho x (List.mem_reverse.1 (List.mem_filter.1 hx).1))
  rw [← h3.2]
  exact stepOk_name (flow_have hf h3.1).1
end Go.Proofs.Ytmnhnldnnniglaa
