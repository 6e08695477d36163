/- Changes that lead to another flow: what they are. -/
import Derived.Test.YtmnhnldnnniglaaGreatP19
set_option linter.all false
namespace Go.Proofs.YtmnhnldnnniglaaGreat

/-! ## Ascending steps are told by their names -/

theorem asc_unique : ∀ {l m : List Step}, l.Pairwise (fun a b => slt a.name b.name = true) → m.Pairwise (fun a b => slt a.name b.name = true) → (∀ x, x ∈ l ↔ x ∈ m) → l = m
  | [], [], _, _, _ => rfl
  | [], y :: m, _, _, h => by have := (h y).2 (by simp); cases this
  | x :: l, [], _, _, h => by have := (h x).1 (by simp); cases this
  | x :: l, y :: m, hl, hm, h => by
    rw [List.pairwise_cons] at hl hm
    have hxy : x = y := by
      rcases List.mem_cons.1 ((h x).1 (by simp)) with e | e
      · exact e
      · rcases List.mem_cons.1 ((h y).2 (by simp)) with e2 | e2
        · exact e2.symm
        · have a := hm.1 x e
          have b := hl.1 y e2
          rw [slt_asymm a] at b
          cases b
    subst hxy
    have ht : ∀ z, z ∈ l ↔ z ∈ m := fun z => by
      constructor
      · intro hz
        rcases List.mem_cons.1 ((h z).1 (by simp [hz])) with e | e
        · subst e; have := hl.1 z hz; rw [slt_irrefl] at this; cases this
        · exact e
      · intro hz
        rcases List.mem_cons.1 ((h z).2 (by simp [hz])) with e | e
        · subst e; have := hm.1 z hz; rw [slt_irrefl] at this; cases this
        · exact e
    rw [asc_unique hl.2 hm.2 ht]

/-- All steps of a fine flow stand in its order. -/
theorem ord_all {f : Flow} (hok : flowOk f = true) : ∀ s ∈ f.steps, s.name ∈ ordN f.steps f.steps.length [] := by
  have ho := ord_ordN hok f.steps.length [] (ord_nil _)
  have hl : (ordN f.steps f.steps.length []).length = f.steps.length := by
    unfold flowOk at hok
    simp only [Bool.and_eq_true] at hok
    have := eqb_true.1 hok.2.2.2
    omega
  intro s hs
  by_cases h : s.name ∈ ordN f.steps f.steps.length []
  · exact h
  · exfalso
    have hn : (s.name :: ordN f.steps f.steps.length []).Nodup := List.nodup_cons.2 ⟨h, ord_nodup ho⟩
    have := sub_len (a := s.name :: ordN f.steps f.steps.length []) (b := f.steps.map (·.name)) hn (fun x hx => by
      rcases List.mem_cons.1 hx with e | e
      · rw [e]; exact List.mem_map_of_mem hs
      · exact hasB_true.1 (ord_mem ho x e))
    simp only [List.length_cons, List.length_map] at this
    omega

/-! ## The changes -/

def stepOf (steps : List Step) (n : Str) : Step := match steps[(posOf (·.name) steps n).toNat]? with | some s => s | none => ⟨⟨#[]⟩, [], false⟩
theorem stepOf_at {f : Flow} (h : flowOk f = true) {i : Nat} (hi : i < f.steps.length) : stepOf f.steps f.steps[i].name = f.steps[i] := by
  unfold stepOf
  rw [step_at h hi, Int.toNat_natCast, List.getElem?_eq_getElem hi]

def freeP (g : Flow) (s : Step) : Bool := hasB (g.steps.map (·.name)) s.name && (ltb 0 ((s.after.length : Nat) : Int) && !decide (s.after = (stepOf g.steps s.name).after))
def chFree (f g : Flow) : List Change := (f.steps.filter (freeP g)).map fun s => ⟨3, ⟨s.name, [], false⟩⟩
def chGone (f g : Flow) : List Change := (((ordN f.steps f.steps.length []).reverse).filter fun n => !hasB (g.steps.map (·.name)) n).map fun n => ⟨2, ⟨n, [], false⟩⟩
def madeOf (f g : Flow) (n : Str) : List Change :=
  bif !hasB (f.steps.map (·.name)) n then [⟨1, stepOf g.steps n⟩]
  else (bif ltb 0 (((stepOf g.steps n).after.length : Nat) : Int) && !decide ((stepOf g.steps n).after = (stepOf f.steps n).after) then [⟨3, ⟨n, (stepOf g.steps n).after, false⟩⟩] else []) ++
    (bif (stepOf g.steps n).undo != (stepOf f.steps n).undo then [⟨4, ⟨n, [], (stepOf g.steps n).undo⟩⟩] else [])
def chMade (f g : Flow) : List Change := (ordN g.steps g.steps.length []).flatMap (madeOf f g)
def bothF (f g : Flow) : Bool := (f.steps.map (·.name)).any (hasB (g.steps.map (·.name)))
def chOf (f g : Flow) : List Change × Bool := bif flowOk f && (flowOk g && bothF f g) then (chFree f g ++ chGone f g ++ chMade f g, true) else ([], false)

/-- No changes: the same flow. -/
theorem ch_none {f g : Flow} (hf : flowOk f = true) (hg : flowOk g = true) : chFree f g ++ chGone f g ++ chMade f g = [] ↔ f.steps = g.steps := by
  constructor
  · intro h
    rw [List.append_eq_nil_iff, List.append_eq_nil_iff] at h
    obtain ⟨⟨h1, h2⟩, h3⟩ := h
    have free : ∀ s ∈ f.steps, freeP g s = false := by
      unfold chFree at h1
      rw [List.map_eq_nil_iff, List.filter_eq_nil_iff] at h1
      exact fun s hs => by have := h1 s hs; simpa using this
    have gone : ∀ s ∈ f.steps, hasB (g.steps.map (·.name)) s.name = true := by
      unfold chGone at h2
      rw [List.map_eq_nil_iff, List.filter_eq_nil_iff] at h2
      intro s hs
      have := h2 s.name (List.mem_reverse.2 (ord_all hf s hs))
      simpa using this
    have made : ∀ s ∈ g.steps, madeOf f g s.name = [] := by
      unfold chMade at h3
      rw [List.flatMap_eq_nil_iff] at h3
      exact fun s hs => h3 _ (ord_all hg s hs)
    -- two steps of one name are the same
    have same : ∀ s ∈ f.steps, ∀ t ∈ g.steps, s.name = t.name → s = t := by
      intro s hs t ht e
      obtain ⟨i, hi, rfl⟩ := List.getElem_of_mem hs
      obtain ⟨j, hj, rfl⟩ := List.getElem_of_mem ht
      have a := free _ hs
      have b := made _ ht
      have hin : hasB (f.steps.map (·.name)) g.steps[j].name = true := hasB_true.2 (e ▸ List.mem_map_of_mem hs)
      have hin2 : hasB (g.steps.map (·.name)) f.steps[i].name = true := gone _ hs
      have o1 : stepOf g.steps f.steps[i].name = g.steps[j] := by rw [e, stepOf_at hg hj]
      have o2 : stepOf f.steps g.steps[j].name = f.steps[i] := by rw [← e, stepOf_at hf hi]
      unfold freeP at a
      rw [hin2, o1, Bool.true_and] at a
      unfold madeOf at b
      rw [hin, o2, stepOf_at hg hj] at b
      simp only [Bool.not_true, cond_false] at b
      rw [List.append_eq_nil_iff] at b
      obtain ⟨b1, b2⟩ := b
      have hu : g.steps[j].undo = f.steps[i].undo := by
        cases hc : g.steps[j].undo <;> cases hd : f.steps[i].undo <;> rw [hc, hd] at b2 <;> first | rfl | (simp at b2)
      have ha : f.steps[i].after = g.steps[j].after := by
        by_cases z : f.steps[i].after = g.steps[j].after
        · exact z
        · exfalso
          rw [decide_eq_false z] at a
          rw [decide_eq_false (fun h => z h.symm)] at b1
          simp only [Bool.not_false, Bool.and_true] at a b1
          have n1 : f.steps[i].after = [] := List.eq_nil_of_length_eq_zero (by have := ltb_false.1 a; omega)
          have n2 : g.steps[j].after = [] := by
            cases hc : ltb 0 ((g.steps[j].after.length : Nat) : Int) with
            | true => rw [hc] at b1; simp at b1
            | false => exact List.eq_nil_of_length_eq_zero (by have := ltb_false.1 hc; omega)
          exact z (n1.trans n2.symm)
      generalize f.steps[i] = p at *
      generalize g.steps[j] = q at *
      cases p; cases q
      simp only at e ha hu
      subst e; subst ha; subst hu
      rfl
    refine asc_unique (flow_asc hf) (flow_asc hg) fun x => ⟨fun hx => ?_, fun hx => ?_⟩
    · obtain ⟨t, ht, e⟩ := List.mem_map.1 (hasB_true.1 (gone x hx))
      rw [same x hx t ht e.symm]; exact ht
    · have b := made x hx
      have hin : hasB (f.steps.map (·.name)) x.name = true := by
        cases hc : hasB (f.steps.map (·.name)) x.name with
        | true => rfl
        | false => unfold madeOf at b; rw [hc] at b; simp at b
      obtain ⟨s, hs, e⟩ := List.mem_map.1 (hasB_true.1 hin)
      rw [← same s hs x hx e]; exact hs
  · intro e
    have hall : ∀ n ∈ ordN g.steps g.steps.length [], hasB (g.steps.map (·.name)) n = true := ord_mem (ord_ordN hg _ [] (ord_nil _))
    rw [List.append_eq_nil_iff, List.append_eq_nil_iff]
    refine ⟨⟨?_, ?_⟩, ?_⟩
    · unfold chFree
      rw [List.map_eq_nil_iff, List.filter_eq_nil_iff]
      intro s hs
      rw [e] at hs
      obtain ⟨i, hi, rfl⟩ := List.getElem_of_mem hs
      unfold freeP
      rw [stepOf_at hg hi]
      simp
    · unfold chGone
      rw [List.map_eq_nil_iff, List.filter_eq_nil_iff]
      intro n hn
      rw [List.mem_reverse, e] at hn
      rw [hall n hn]; simp
    · unfold chMade
      rw [List.flatMap_eq_nil_iff]
      intro n hn
      unfold madeOf
      rw [e, hall n hn]
      simp
end Go.Proofs.YtmnhnldnnniglaaGreat
