/- Changes lead to the other flow: what they do, one after the other. -/
import Derived.Test.YtmnhnldnnniglaaP50
import Derived.Test.YtmnhnldnnniglaaP30
set_option linter.all false
namespace Go.Proofs.Ytmnhnldnnniglaa

/-! ## Orders -/

theorem ord_split {l : List Step} {d : List Str} : ordOk l d = true ↔ d.Nodup ∧ ∀ p y q, d = p ++ y :: q → hasS l y = true ∧ ∀ a ∈ (stepOf l y).after, a ∈ p := by
  rw [ord_iff]
  refine and_congr_right fun hn => ⟨fun h p y q e => ?_, fun h i hi => ?_⟩
  · have hi : p.length < d.length := by rw [e]; simp
    have h1 : d[p.length] = y := by subst e; simp
    have h2 : d.take p.length = p := by subst e; simp
    have := h p.length hi
    rw [h1, h2] at this
    exact this
  · refine h (d.take i) d[i] (d.drop (i + 1)) ?_
    rw [← List.drop_eq_getElem_cons hi, List.take_append_drop]
theorem free_iff {D : List Str} {s : Step} : free D s = true ↔ s.name ∉ D ∧ ∀ a ∈ s.after, a ∈ D := by
  unfold free haveB
  rw [Bool.and_eq_true, Bool.not_eq_true', ← Bool.not_eq_true, hasB_true, List.all_eq_true]
  exact and_congr_right fun _ => forall_congr' fun a => imp_congr_right fun _ => hasB_true
theorem ord_snocA {l : List Step} (ha : ascK nameK l) {D : List Str} {s : Step} (h : ordOk l D = true) (hs : l.find? (free D) = some s) : ordOk l (D ++ [s.name]) = true := by
  have hm := List.mem_of_find?_eq_some hs
  obtain ⟨f1, f2⟩ := free_iff.1 (List.find?_some hs)
  obtain ⟨hn, hi⟩ := ord_iff.1 h
  refine ord_iff.2 ⟨List.nodup_append.2 ⟨hn, by simp, fun a ha b hb => ?_⟩, fun i hlt => ?_⟩
  · rw [List.mem_singleton.1 hb]
    intro e
    exact f1 (e ▸ ha)
  · rcases Nat.lt_or_ge i D.length with h1 | h1
    · rw [List.getElem_append_left h1, List.take_append_of_le_length (by omega)]
      exact hi i h1
    · have h2 : i = D.length := by rw [List.length_append] at hlt; simp at hlt; omega
      subst h2
      simp only [List.getElem_append_right (Nat.le_refl _), Nat.sub_self, List.getElem_singleton, List.take_left']
      rw [stepOf_eq ha hm rfl]
      exact ⟨has_iff.2 ⟨s, hm, rfl⟩, by simpa using f2⟩

/-- There is always something ready until all is done. -/
theorem ord_next {l : List Step} (ha : ascK nameK l) {d D : List Str} (hd : ordOk l d = true) (hl : d.length = l.length) (hD : D.length < l.length) : l.find? (free D) ≠ none := by
  obtain ⟨hn, hi⟩ := ord_iff.1 hd
  have step : ∀ i, i ≤ d.length → (∀ j (hj : j < d.length), j < i → d[j] ∈ D) ∨ l.find? (free D) ≠ none := by
    intro i
    induction i with
    | zero => exact fun _ => .inl fun j hj h => by omega
    | succ i ih =>
      intro hle
      rcases ih (by omega) with h1 | h1
      · by_cases hm : d[i]'(by omega) ∈ D
        · refine .inl fun j hj h => ?_
          rcases Nat.lt_or_ge j i with h2 | h2
          · exact h1 j hj h2
          · obtain rfl : j = i := by omega
            exact hm
        · refine .inr fun hnone => ?_
          have hin := stepOf_in (hi i (by omega)).1
          have := List.find?_eq_none.1 hnone _ hin.1
          refine this (free_iff.2 ⟨by rw [hin.2]; exact hm, fun a haa => ?_⟩)
          obtain ⟨j, hj, e⟩ := List.getElem_of_mem ((hi i (by omega)).2 a haa)
          rw [List.length_take] at hj
          rw [List.getElem_take] at e
          rw [← e]
          exact h1 j (by omega) (by omega)
      · exact .inr h1
  rcases step d.length (Nat.le_refl _) with h1 | h1
  · have := sub_len (a := d) (b := D) hn (fun x hx => by
      obtain ⟨j, hj, rfl⟩ := List.getElem_of_mem hx
      exact h1 j hj hj)
    omega
  · exact h1
theorem ordN_full {l : List Step} (ha : ascK nameK l) {d : List Str} (hd : ordOk l d = true) (hl : d.length = l.length) : ∀ (n : Nat) (D : List Str), ordOk l D = true → l.length ≤ D.length + n → (ordN l n D).length = l.length
  | 0, D, h, hle => by
    have := ord_len h
    unfold ordN
    omega
  | n + 1, D, h, hle => by
    unfold ordN
    cases hf : l.find? (free D) with
    | none =>
      have := ord_len h
      simp only
      by_cases hc : D.length < l.length
      · exact absurd hf (ord_next ha hd hl hc)
      · omega
    | some s => exact ordN_full ha hd hl n _ (ord_snocA ha h hf) (by simp; omega)

theorem okS_of {S : List Step} {d : List Str} {v : Int} (ha : ascK nameK S) (h0 : 0 < S.length) (h8 : S.length ≤ 8) (hs : ∀ s ∈ S, stepOk s = true) (hh : ∀ s ∈ S, ∀ a ∈ s.after, hasS S a = true) (hd : ordOk S d = true) (hl : d.length = S.length) (h1 : 1 ≤ v) (h2 : v ≤ 99) : flowOk ⟨v, S⟩ = true := by
  unfold flowOk
  simp only [Bool.and_eq_true]
  refine ⟨allIdx_true.2 fun i hi => ?_, ⟨leb_true.2 h1, leb_true.2 h2⟩, ⟨leb_true.2 (by omega), leb_true.2 (by omega)⟩, eqb_true.2 ?_⟩
  · unfold flowStep
    simp only [Bool.and_eq_true, Nat.zero_add, Bool.or_eq_true, decide_eq_true_eq]
    refine ⟨hs _ (List.getElem_mem hi), ?_, ?_⟩
    · rcases Nat.eq_zero_or_pos i with h3 | h3
      · exact .inl h3
      · refine .inr ?_
        rw [List.getElem?_eq_getElem (by omega)]
        exact List.pairwise_iff_getElem.1 ha (i - 1) i (by omega) hi (by omega)
    · unfold haveB
      rw [List.all_eq_true]
      exact fun a haa => hh _ (List.getElem_mem hi) a haa
  · rw [ordN_full ha hd hl S.length [] (ord_nil _) (by simp)]

/-- Steps that come after no more than those of a fine flow. -/
def subOk (F : Flow) (S : List Step) : Prop := ascK nameK S ∧ 0 < S.length ∧ (∀ s ∈ S, stepOk s = true) ∧ ∀ s ∈ S, hasS F.steps s.name = true ∧ ∀ a ∈ s.after, a ∈ (stepOf F.steps s.name).after ∧ hasS S a = true
theorem ord_full {f : Flow} (hok : flowOk f = true) : ordOk f.steps (ordN f.steps f.steps.length []) = true := ord_ordN hok _ [] (ord_nil _)
theorem asc_nodup {l : List Step} (h : ascK nameK l) : (l.map (·.name)).Nodup := by
  rw [List.nodup_iff_pairwise_ne, List.pairwise_map]
  exact List.Pairwise.imp (fun h => slt_ne h) h
theorem sub_ok {F : Flow} {S : List Step} (hF : flowOk F = true) (h : subOk F S) {v : Int} (h1 : 1 ≤ v) (h2 : v ≤ 99) : flowOk ⟨v, S⟩ = true := by
  obtain ⟨ha, h0, hs, hm⟩ := h
  have hd := ord_full hF
  have hall := ord_all hF
  generalize ordN F.steps F.steps.length [] = d at hd hall
  obtain ⟨hn, hsp⟩ := ord_split.1 hd
  have hin : ∀ s ∈ S, s.name ∈ d := fun s hsS => by
    have := (hm s hsS).1
    have h3 := stepOf_in this
    rw [← h3.2]
    exact hall _ h3.1
  have hl8 : S.length ≤ 8 := by
    have := sub_len (a := S.map (·.name)) (b := F.steps.map (·.name)) (asc_nodup ha) (fun x hx => by
      obtain ⟨s, hsS, rfl⟩ := List.mem_map.1 hx
      exact hasB_true.1 (hm s hsS).1)
    have h8 := (flow_small hF).1
    simp only [List.length_map] at this
    omega
  refine okS_of (d := d.filter (hasS S)) ha h0 hl8 hs (fun s hsS a haa => ((hm s hsS).2 a haa).2) (ord_split.2 ⟨hn.filter _, fun p y q e => ?_⟩) ?_ h1 h2
  · obtain ⟨p1, r, e1, e2, e3⟩ := List.filter_eq_append_iff.1 e
    obtain ⟨l1, l2, e4, e5, e6, e7⟩ := List.filter_eq_cons_iff.1 e3
    have hy := stepOf_in e6
    have hmy := hm _ hy.1
    rw [hy.2] at hmy
    refine ⟨e6, fun a haa => ?_⟩
    have h3 := hmy.2 a haa
    have h4 := (hsp (p1 ++ l1) y l2 (by rw [e1, e4, List.append_assoc])).2 a h3.1
    rw [← e2]
    rcases List.mem_append.1 h4 with h5 | h5
    · exact List.mem_filter.2 ⟨h5, h3.2⟩
    · exact absurd h3.2 (e5 a h5)
  · have a1 := sub_len (a := d.filter (hasS S)) (b := S.map (·.name)) (hn.filter _) (fun x hx => by
      have := (List.mem_filter.1 hx).2
      exact hasB_true.1 this)
    have a2 := sub_len (a := S.map (·.name)) (b := d.filter (hasS S)) (asc_nodup ha) (fun x hx => by
      obtain ⟨s, hsS, rfl⟩ := List.mem_map.1 hx
      exact List.mem_filter.2 ⟨hin s hsS, has_iff.2 ⟨s, hsS, rfl⟩⟩)
    simp only [List.length_map] at a1 a2
    omega

/-! ## Changes that lead from steps to steps -/

def leads : List Step → List Change → List Step → Prop
  | S, [], T => S = T
  | S, c :: t, T => stepOk c.step = true ∧ ∃ S', chSteps S c = some S' ∧ flowOk ⟨1, S'⟩ = true ∧ leads S' t T
theorem leads_append : ∀ {cs ds : List Change} {S M T : List Step}, leads S cs M → leads M ds T → leads S (cs ++ ds) T
  | [], ds, S, M, T, h, h2 => by
    cases (show S = M from h)
    exact h2
  | c :: t, ds, S, M, T, ⟨h1, S', h3, h4, h5⟩, h2 => ⟨h1, S', h3, h4, leads_append h5 h2⟩
theorem leads_one {S T : List Step} {c : Change} (h1 : stepOk c.step = true) (h2 : chSteps S c = some T) (h3 : flowOk ⟨1, T⟩ = true) : leads S [c] T := ⟨h1, T, h2, h3, rfl⟩
theorem leads_chL : ∀ {cs : List Change} {f : Flow} {T : List Step}, flowOk f = true → leads f.steps cs T →
    (f.ver + cs.length ≤ 99 → chL f cs = (⟨f.ver + cs.length, T⟩, true)) ∧ (99 < f.ver + cs.length → (chL f cs).2 = false)
  | [], f, T, hf, h => by
    cases (show f.steps = T from h)
    have := flow_verB hf
    refine ⟨fun _ => ?_, fun h => ?_⟩
    · unfold chL; simp
    · simp at h; omega
  | c :: t, f, T, hf, ⟨h1, S', h3, h4, h5⟩ => by
    have hv := flow_verB hf
    have e := chF_eq hf h1 h3
    by_cases h9 : f.ver + 1 ≤ 99
    · have hok : flowOk ⟨f.ver + 1, S'⟩ = true := flow_at_ver (f := ⟨1, S'⟩) h4 (by omega) h9
      rw [hok, cond_true] at e
      obtain ⟨k1, k2⟩ := leads_chL (f := ⟨f.ver + 1, S'⟩) hok h5
      rw [chL_cons]
      rw [e]
      simp only [cond_true, List.length_cons] at k1 k2 ⊢
      refine ⟨fun h => ?_, fun h => ?_⟩
      · rw [k1 (by omega)]
        congr 2
        omega
      · exact k2 (by omega)
    · have hok : flowOk ⟨f.ver + 1, S'⟩ = false := by
        cases hc : flowOk ⟨f.ver + 1, S'⟩ with
        | false => rfl
        | true => have := flow_verB hc; simp only at this; omega
      rw [hok, cond_false] at e
      rw [chL_cons]
      rw [e]
      refine ⟨fun h => ?_, fun _ => rfl⟩
      simp at h; omega

/-! ## First: what comes after nothing -/

def freed (g : Flow) (s : Step) : Step := bif freeP g s then ⟨s.name, [], s.undo⟩ else s
theorem freed_name (g : Flow) (s : Step) : (freed g s).name = s.name := by unfold freed; cases freeP g s <;> rfl
theorem freed_undo (g : Flow) (s : Step) : (freed g s).undo = s.undo := by unfold freed; cases freeP g s <;> rfl
theorem freed_after (g : Flow) (s : Step) : (freed g s).after = s.after ∨ (freed g s).after = [] := by
  unfold freed
  cases freeP g s with
  | true => exact .inr rfl
  | false => exact .inl rfl
theorem stepOk_like {s t : Step} (h : stepOk s = true) (e : t.name = s.name) (ha : t.after = s.after ∨ t.after = []) : stepOk t = true := by
  obtain ⟨n, a, u⟩ := t
  simp only at e ha
  subst e
  rcases ha with rfl | rfl
  · exact h
  · exact stepOk_bare (stepOk_name h)
theorem sub_names {F : Flow} {S : List Step} (hF : flowOk F = true) (hn : S.map (·.name) = F.steps.map (·.name)) (hs : ∀ s ∈ S, ∃ s0 ∈ F.steps, s.name = s0.name ∧ (s.after = s0.after ∨ s.after = [])) : subOk F S := by
  have ha := flow_ascK hF
  have hhas : ∀ n, hasS S n = hasS F.steps n := fun n => by unfold hasS; rw [hn]
  refine ⟨?_, ?_, fun s hsS => ?_, fun s hsS => ?_⟩
  · have := ascK_names ha
    unfold ascK at this ⊢
    have e : F.steps.map nameK = S.map nameK := hn.symm
    rw [e, List.pairwise_map] at this
    exact this
  · have := congrArg List.length hn
    simp only [List.length_map] at this
    rw [this]
    exact flow_some hF
  · obtain ⟨s0, h0, e, h1⟩ := hs s hsS
    exact stepOk_like (flow_have hF h0).1 e h1
  · obtain ⟨s0, h0, e, h1⟩ := hs s hsS
    rw [stepOf_eq ha h0 e.symm]
    refine ⟨has_iff.2 ⟨s0, h0, e.symm⟩, fun a haa => ?_⟩
    rcases h1 with h1 | h1
    · rw [h1] at haa
      exact ⟨haa, by rw [hhas]; exact (flow_have hF h0).2 a haa⟩
    · rw [h1] at haa; cases haa

theorem lead_free {f g : Flow} (hf : flowOk f = true) : ∀ (todo done : List Step), f.steps = done ++ todo → leads (done.map (freed g) ++ todo) ((todo.filter (freeP g)).map fun s => ⟨3, ⟨s.name, [], false⟩⟩) (f.steps.map (freed g))
  | [], done, e => by
    rw [List.append_nil] at e
    rw [e]
    simp [leads]
  | s :: t, done, e => by
    have ih := lead_free (g := g) hf t (done ++ [s]) (by rw [e]; simp)
    have hs : s ∈ f.steps := by rw [e]; simp
    cases hp : freeP g s with
    | false =>
      have e1 : freed g s = s := by unfold freed; rw [hp]; rfl
      rw [List.map_append, List.map_cons, List.map_nil, e1] at ih
      rw [List.filter_cons, hp]
      simpa using ih
    | true =>
      have e1 : freed g s = ⟨s.name, [], s.undo⟩ := by unfold freed; rw [hp]; rfl
      rw [List.filter_cons, hp, if_pos rfl, List.map_cons]
      have nm : ∀ l : List Step, (l.map (freed g)).map (·.name) = l.map (·.name) := fun l => by
        rw [List.map_map]
        exact List.map_congr_left fun x _ => freed_name g x
      have sb : ∀ (a b : List Step), f.steps = a ++ b → subOk f (a.map (freed g) ++ b) := fun a b e2 => by
        refine sub_names hf (by rw [List.map_append, nm, e2, List.map_append]) fun x hx => ?_
        rcases List.mem_append.1 hx with h | h
        · obtain ⟨y, hy, rfl⟩ := List.mem_map.1 h
          exact ⟨y, by rw [e2]; simp [hy], freed_name g y, freed_after g y⟩
        · exact ⟨x, by rw [e2]; simp [h], rfl, .inl rfl⟩
      have sS := sb done (s :: t) e
      have hat : stepOf (done.map (freed g) ++ s :: t) s.name = s := stepOf_eq sS.1 (by simp) rfl
      have hhas : hasS (done.map (freed g) ++ s :: t) s.name = true := has_iff.2 ⟨s, by simp, rfl⟩
      have hlen : (done.map (freed g)).length < (done.map (freed g) ++ s :: t).length := by simp
      have hset := set_put (key := nameK) (x := (⟨s.name, [], s.undo⟩ : Step)) sS.1 hlen (by simp [nameK])
      have hT : withS (done.map (freed g) ++ s :: t) ⟨s.name, [], s.undo⟩ = (done ++ [s]).map (freed g) ++ t := by
        unfold withS
        rw [← hset, List.map_append, List.map_cons, List.map_nil, e1]
        simp
      refine ⟨stepOk_bare (stepOk_name (flow_have hf hs).1), (done ++ [s]).map (freed g) ++ t, ?_, ?_, ih⟩
      · unfold chSteps
        simp only
        rw [hhas, hat, eqb_false.2 (by omega), eqb_false.2 (by omega), eqb_true.2 rfl, hT]
        rfl
      · exact sub_ok hf (sb (done ++ [s]) t (by rw [e]; simp)) (by omega) (by omega)

/-! ## Second: what is gone -/

def goneP (g : Flow) (n : Str) : Bool := !hasB (g.steps.map (·.name)) n
def rest (f g : Flow) (X : List Str) : List Step := (f.steps.map (freed g)).filter fun s => !hasB X s.name
theorem rest_mem {f g : Flow} {X : List Str} {s : Step} : s ∈ rest f g X ↔ ∃ s0 ∈ f.steps, s = freed g s0 ∧ s0.name ∉ X := by
  unfold rest
  rw [List.mem_filter, List.mem_map]
  constructor
  · rintro ⟨⟨s0, h0, rfl⟩, h2⟩
    rw [freed_name, Bool.not_eq_true', ← Bool.not_eq_true, hasB_true] at h2
    exact ⟨s0, h0, rfl, h2⟩
  · rintro ⟨s0, h0, rfl, h2⟩
    refine ⟨⟨s0, h0, rfl⟩, ?_⟩
    rw [freed_name, Bool.not_eq_true', ← Bool.not_eq_true, hasB_true]
    exact h2
/-- What a step that both flows have comes after is in both. -/
theorem freed_in {f g : Flow} (hg : flowOk g = true) {s0 : Step} (hc : hasS g.steps s0.name = true) {a : Str} (ha : a ∈ (freed g s0).after) : a ∈ s0.after ∧ a ∈ (stepOf g.steps s0.name).after ∧ s0.after = (stepOf g.steps s0.name).after := by
  unfold freed at ha
  cases hp : freeP g s0 with
  | true => rw [hp] at ha; cases ha
  | false =>
    rw [hp, cond_false] at ha
    have hcc : hasB (g.steps.map (·.name)) s0.name = true := hc
    unfold freeP at hp
    rw [hcc, Bool.true_and] at hp
    have h1 : ltb 0 ((s0.after.length : Nat) : Int) = true := ltb_true.2 (by have := List.length_pos_of_mem ha; omega)
    rw [h1, Bool.true_and, Bool.not_eq_false', decide_eq_true_eq] at hp
    exact ⟨ha, hp ▸ ha, hp⟩

theorem rest_sub {f g : Flow} (hf : flowOk f = true) (hg : flowOk g = true) (hb : bothF f g = true) {done todo : List Str} (e : (ordN f.steps f.steps.length []).reverse = done ++ todo) :
    subOk f (rest f g (done.filter (goneP g))) ∧ ∀ n t, todo = n :: t → goneP g n = true → hasS (rest f g (done.filter (goneP g))) n = true ∧ ∀ s ∈ rest f g (done.filter (goneP g)), hasB s.after n = false := by
  have ha := flow_ascK hf
  have hd := ord_full hf
  have hall := ord_all hf
  generalize ordN f.steps f.steps.length [] = d at hd hall e
  have ed : d = todo.reverse ++ done.reverse := by
    have := congrArg List.reverse e
    rwa [List.reverse_reverse, List.reverse_append] at this
  obtain ⟨hn, hsp⟩ := ord_split.1 hd
  have hnr : (done ++ todo).Nodup := by rw [← e]; exact List.pairwise_reverse.2 (List.Pairwise.imp (fun h => Ne.symm h) hn)
  have hdis : ∀ x ∈ done, x ∉ todo := fun x hx hy => (List.nodup_append.1 hnr).2.2 x hx x hy rfl
  have hasc : ascK nameK (rest f g (done.filter (goneP g))) := (asc_map (fun x => freed_name g x) ha).filter _
  -- what a step that is gone, but still here, comes after, is still here
  have later : ∀ s0 ∈ f.steps, s0.name ∈ todo → ∀ a ∈ s0.after, a ∈ todo := fun s0 h0 ht a haa => by
    obtain ⟨p1, p2, e1⟩ := List.append_of_mem (List.mem_reverse.2 ht)
    have := (hsp p1 s0.name (p2 ++ done.reverse) (by rw [ed, e1]; simp)).2 a (by rw [stepOf_eq ha h0 rfl]; exact haa)
    exact List.mem_reverse.1 (by rw [e1]; simp [this])
  have place : ∀ s0 ∈ f.steps, s0.name ∉ done.filter (goneP g) → hasS g.steps s0.name = true ∨ s0.name ∈ todo := fun s0 h0 h1 => by
    cases hc : hasS g.steps s0.name with
    | true => exact .inl rfl
    | false =>
      have h2 : s0.name ∈ done ++ todo := by rw [← e]; exact List.mem_reverse.2 (hall s0 h0)
      rcases List.mem_append.1 h2 with h3 | h3
      · exact absurd (List.mem_filter.2 ⟨h3, by unfold goneP; show (!hasS g.steps s0.name) = true; rw [hc]; rfl⟩) h1
      · exact .inr h3
  refine ⟨⟨hasc, ?_, fun s hs => ?_, fun s hs => ?_⟩, fun n t et hg2 => ⟨?_, fun s hs => ?_⟩⟩
  · unfold bothF at hb
    rw [List.any_eq_true] at hb
    obtain ⟨x, hx, h1⟩ := hb
    obtain ⟨s0, h0, rfl⟩ := List.mem_map.1 hx
    refine List.length_pos_of_mem (rest_mem.2 ⟨s0, h0, rfl, fun hm => ?_⟩)
    have := (List.mem_filter.1 hm).2
    unfold goneP at this
    rw [h1] at this
    cases this
  · obtain ⟨s0, h0, rfl, _⟩ := rest_mem.1 hs
    exact stepOk_like (flow_have hf h0).1 (freed_name g s0) (freed_after g s0)
  · obtain ⟨s0, h0, rfl, h1⟩ := rest_mem.1 hs
    rw [freed_name, stepOf_eq ha h0 rfl]
    refine ⟨has_iff.2 ⟨s0, h0, rfl⟩, fun a haa => ?_⟩
    have h5 : a ∈ s0.after := by
      rcases freed_after g s0 with h | h
      · rw [h] at haa; exact haa
      · rw [h] at haa; cases haa
    refine ⟨h5, ?_⟩
    obtain ⟨sa, hsa, ea⟩ := has_iff.1 ((flow_have hf h0).2 a h5)
    have notin : a ∉ done.filter (goneP g) := fun hm => by
      have hm2 := List.mem_filter.1 hm
      rcases place s0 h0 h1 with h6 | h6
      · have := (freed_in (f := f) hg h6 haa).2.1
        have h7 := (flow_have hg (stepOf_in h6).1).2 a this
        have h8 := hm2.2
        unfold goneP at h8
        rw [show hasB (g.steps.map fun x => x.name) a = true from h7] at h8
        cases h8
      · exact hdis a hm2.1 (later s0 h0 h6 a h5)
    exact has_iff.2 ⟨freed g sa, rest_mem.2 ⟨sa, hsa, rfl, by rw [ea]; exact notin⟩, by rw [freed_name]; exact ea⟩
  · have hnt : n ∈ todo := by rw [et]; simp
    have hnd : n ∈ d := by rw [ed]; simp [hnt]
    obtain ⟨sn, hsn, en⟩ := List.mem_map.1 (hasB_true.1 (ord_mem hd n hnd))
    refine has_iff.2 ⟨freed g sn, rest_mem.2 ⟨sn, hsn, rfl, fun hm => ?_⟩, by rw [freed_name]; exact en⟩
    rw [en] at hm
    exact hdis n (List.mem_filter.1 hm).1 hnt
  · obtain ⟨s0, h0, rfl, h1⟩ := rest_mem.1 hs
    cases hc : hasB (freed g s0).after n with
    | false => rfl
    | true =>
      exfalso
      have haa := hasB_true.1 hc
      cases hcg : hasS g.steps s0.name with
      | true =>
        have := (freed_in (f := f) hg hcg haa).2.1
        have h7 := (flow_have hg (stepOf_in hcg).1).2 n this
        unfold goneP at hg2
        rw [show hasB (g.steps.map fun x => x.name) n = true from h7] at hg2
        cases hg2
      | false =>
        have h5 : n ∈ s0.after := by
          rcases freed_after g s0 with h | h
          · rw [h] at haa; exact haa
          · rw [h] at haa; cases haa
        -- s0 stands behind n in the order, so it is gone already
        have hgs : goneP g s0.name = true := by unfold goneP; show (!hasS g.steps s0.name) = true; rw [hcg]; rfl
        have hs0 : s0.name ∈ todo := by
          rcases place s0 h0 h1 with h6 | h6
          · rw [hcg] at h6; cases h6
          · exact h6
        have ht2 : s0.name ∈ t.reverse ∨ s0.name = n := by
          rw [et] at hs0
          rcases List.mem_cons.1 hs0 with h | h
          · exact .inr h
          · exact .inl (List.mem_reverse.2 h)
        rcases ht2 with h2 | h2
        · obtain ⟨p1, p2, e1⟩ := List.append_of_mem h2
          have hin := (hsp p1 s0.name (p2 ++ n :: done.reverse) (by rw [ed, et, List.reverse_cons, e1]; simp)).2 n (by rw [stepOf_eq ha h0 rfl]; exact h5)
          have hnt : n ∈ t := List.mem_reverse.1 (by rw [e1]; simp [hin])
          have hnn := (List.nodup_append.1 hnr).2.1
          rw [et] at hnn
          exact (List.nodup_cons.1 hnn).1 hnt
        · have := (flow_have hf h0).1
          unfold stepOk at this
          simp only [Bool.and_eq_true, Bool.not_eq_true'] at this
          rw [h2, hasB_true.2 h5] at this
          cases this.1.2

theorem lead_gone {f g : Flow} (hf : flowOk f = true) (hg : flowOk g = true) (hb : bothF f g = true) : ∀ (todo done : List Str), (ordN f.steps f.steps.length []).reverse = done ++ todo →
    leads (rest f g (done.filter (goneP g))) ((todo.filter (goneP g)).map fun n => ⟨2, ⟨n, [], false⟩⟩) (rest f g ((ordN f.steps f.steps.length []).reverse.filter (goneP g)))
  | [], done, e => by
    rw [List.append_nil] at e
    rw [e]
    simp [leads]
  | n :: t, done, e => by
    have ih := lead_gone hf hg hb t (done ++ [n]) (by rw [e]; simp)
    cases hp : goneP g n with
    | false =>
      rw [List.filter_append] at ih
      simp only [List.filter_cons, hp, List.filter_nil, Bool.false_eq_true, if_false, List.append_nil] at ih ⊢
      exact ih
    | true =>
      have h1 := (rest_sub hf hg hb e).2 n t rfl hp
      have h2 := (rest_sub hf hg hb (done := done ++ [n]) (todo := t) (by rw [e]; simp)).1
      rw [List.filter_append] at ih h2
      simp only [List.filter_cons, hp, List.filter_nil, if_true] at ih h2 ⊢
      have hw : withoutS (rest f g (done.filter (goneP g))) n = rest f g (done.filter (goneP g) ++ [n]) := by
        unfold withoutS
        have em : (rest f g (done.filter (goneP g))).map (dropA n (stepOf (rest f g (done.filter (goneP g))) n).after) = rest f g (done.filter (goneP g)) := by
          conv => rhs; rw [← List.map_id (rest f g (done.filter (goneP g)))]
          exact List.map_congr_left fun x hx => drop_not (h1.2 x hx)
        rw [em]
        unfold rest
        rw [List.filter_filter]
        refine List.filter_congr fun x _ => ?_
        have : hasB (done.filter (goneP g) ++ [n]) x.name = (hasB (done.filter (goneP g)) x.name || seq x.name n) := by
          rw [seq_dec]
          unfold hasB
          rw [List.any_append]
          simp [eq_comm]
        rw [this]
        cases hasB (done.filter (goneP g)) x.name <;> cases seq x.name n <;> rfl
      obtain ⟨hin, hnm⟩ := stepOf_in h1.1
      have hnok : nameOk n = true := by rw [← hnm]; exact stepOk_name ((rest_sub hf hg hb e).1.2.2.1 _ hin)
      refine ⟨stepOk_bare hnok, _, ?_, sub_ok hf h2 (by omega) (by omega), ih⟩
      unfold chSteps
      simp only
      rw [h1.1, eqb_false.2 (by omega), eqb_true.2 rfl, hw]
      rfl
end Go.Proofs.Ytmnhnldnnniglaa
