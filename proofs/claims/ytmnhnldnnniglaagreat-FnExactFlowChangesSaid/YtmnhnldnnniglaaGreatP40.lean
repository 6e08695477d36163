/- Changes of flows: what they are. -/
import Derived.Test.YtmnhnldnnniglaaGreatP30
set_option linter.all false
namespace Go.Proofs.YtmnhnldnnniglaaGreat

/-! ## One more in an ascending row -/

def putK {α : Type} (key : α → Str) (l : List α) (x : α) : List α := l.filter (fun y => slt (key y) (key x)) ++ x :: l.filter (fun y => slt (key x) (key y))
def ascK {α : Type} (key : α → Str) (l : List α) : Prop := l.Pairwise fun a b => slt (key a) (key b) = true
def insE {α : Type} (key : α → Str) (x : α) : List α → List α → Bool → List α
  | [], a, b => bif b then a else a ++ [x]
  | y :: t, a, b => insE key x t ((bif !b && !slt (key y) (key x) then a ++ [x] else a) ++ (bif seq (key y) (key x) then [] else [y])) (b || !slt (key y) (key x))

theorem insE_true {α : Type} (key : α → Str) (x : α) : ∀ (l a : List α), (∀ y ∈ l, slt (key x) (key y) = true) → insE key x l a true = a ++ l
  | [], a, _ => by simp [insE]
  | y :: t, a, h => by
    have h1 := h y (by simp)
    rw [insE, seq_false.2 (fun e => slt_ne h1 e.symm)]
    simp only [Bool.not_true, Bool.false_and, cond_false, Bool.true_or]
    rw [insE_true key x t _ (fun z hz => h z (by simp [hz]))]
    simp

theorem filter_none {α : Type} {p : α → Bool} {l : List α} (h : ∀ x ∈ l, p x = false) : l.filter p = [] := by
  rw [List.filter_eq_nil_iff]
  exact fun x hx => by rw [h x hx]; simp
theorem insE_eq {α : Type} (key : α → Str) (x : α) : ∀ (l a : List α), ascK key l → insE key x l a false = a ++ putK key l x
  | [], a, _ => by simp [insE, putK]
  | y :: t, a, hl => by
    have hl2 := List.pairwise_cons.1 hl
    cases hs : slt (key y) (key x) with
    | false =>
      have ht : ∀ z ∈ t, slt (key x) (key z) = true := fun z hz => by
        cases hx : slt (key x) (key y) with
        | true => exact slt_trans hx (hl2.1 z hz)
        | false => rw [slt_tri hx hs]; exact hl2.1 z hz
      rw [insE, hs]
      simp only [Bool.not_false, Bool.and_self, cond_true, Bool.or_true]
      rw [insE_true key x t _ ht]
      unfold putK
      have f1 : (y :: t).filter (fun z => slt (key z) (key x)) = [] := filter_none (fun z hz => by
        rcases List.mem_cons.1 hz with rfl | hz
        · exact hs
        · exact slt_asymm (ht z hz))
      have f2 : t.filter (fun z => slt (key x) (key z)) = t := List.filter_eq_self.2 ht
      rw [f1, List.filter_cons, f2]
      cases hx : slt (key x) (key y) with
      | true => rw [seq_false.2 (fun e => slt_ne hx e.symm)]; simp
      | false => rw [slt_tri hx hs, seq_self]; simp
    | true =>
      rw [insE, hs, seq_false.2 (slt_ne hs)]
      simp only [Bool.not_true, Bool.and_false, cond_false, Bool.or_self]
      rw [insE_eq key x t _ hl2.2]
      unfold putK
      rw [List.filter_cons, List.filter_cons, hs, slt_asymm hs]
      simp

theorem putK_mem {α : Type} {key : α → Str} {l : List α} {x y : α} : y ∈ putK key l x ↔ y = x ∨ (y ∈ l ∧ key y ≠ key x) := by
  unfold putK
  rw [List.mem_append, List.mem_cons, List.mem_filter, List.mem_filter]
  constructor
  · rintro (⟨h1, h2⟩ | rfl | ⟨h1, h2⟩)
    · exact .inr ⟨h1, slt_ne h2⟩
    · exact .inl rfl
    · exact .inr ⟨h1, fun e => slt_ne h2 e.symm⟩
  · rintro (rfl | ⟨h1, h2⟩)
    · exact .inr (.inl rfl)
    · cases hs : slt (key y) (key x) with
      | true => exact .inl ⟨h1, rfl⟩
      | false =>
        cases hx : slt (key x) (key y) with
        | true => exact .inr (.inr ⟨h1, rfl⟩)
        | false => exact absurd (slt_tri hs hx) h2
theorem putK_asc {α : Type} {key : α → Str} {l : List α} {x : α} (h : ascK key l) : ascK key (putK key l x) := by
  unfold putK ascK
  rw [List.pairwise_append, List.pairwise_cons]
  refine ⟨h.filter _, ⟨fun z hz => (List.mem_filter.1 hz).2, h.filter _⟩, fun a ha b hb => ?_⟩
  have h1 := (List.mem_filter.1 ha).2
  rcases List.mem_cons.1 hb with rfl | hb
  · exact h1
  · exact slt_trans h1 (List.mem_filter.1 hb).2
theorem putK_perm {α : Type} {key : α → Str} {l : List α} {x : α} (h : ∀ y ∈ l, key y ≠ key x) : (l ++ [x]).Perm (putK key l x) := by
  unfold putK
  have e : l.filter (fun y => slt (key x) (key y)) = l.filter (fun y => !slt (key y) (key x)) := List.filter_congr fun y hy => by
    cases hs : slt (key y) (key x) with
    | true => rw [slt_asymm hs]; rfl
    | false =>
      cases hx : slt (key x) (key y) with
      | true => rfl
      | false => exact absurd (slt_tri hs hx) (h y hy)
  rw [e]
  refine (List.perm_append_singleton x l).trans ?_
  refine List.Perm.trans ?_ List.perm_middle.symm
  exact List.Perm.cons x (List.filter_append_perm (fun y => slt (key y) (key x)) l).symm

/-- Ascending rows are told by what is in them. -/
theorem ascK_unique {α : Type} {key : α → Str} : ∀ {l m : List α}, ascK key l → ascK key m → (∀ x, x ∈ l ↔ x ∈ m) → l = m
  | [], [], _, _, _ => rfl
  | [], y :: m, _, _, h => by have := (h y).2 (by simp); cases this
  | x :: l, [], _, _, h => by have := (h x).1 (by simp); cases this
  | x :: l, y :: m, hl0, hm0, h => by
    have hl := List.pairwise_cons.1 hl0
    have hm := List.pairwise_cons.1 hm0
    have hxy : x = y := by
      rcases List.mem_cons.1 ((h x).1 (by simp)) with e | e
      · exact e
      · rcases List.mem_cons.1 ((h y).2 (by simp)) with e2 | e2
        · exact e2.symm
        · have a := hm.1 x e
          have b := hl.1 y e2
          rw [slt_asymm a] at b
          cases b
    subst hxy
    have ht : ∀ z, z ∈ l ↔ z ∈ m := fun z => by
      constructor
      · intro hz
        rcases List.mem_cons.1 ((h z).1 (by simp [hz])) with e | e
        · subst e; have := hl.1 z hz; rw [slt_irrefl] at this; cases this
        · exact e
      · intro hz
        rcases List.mem_cons.1 ((h z).2 (by simp [hz])) with e | e
        · subst e; have := hm.1 z hz; rw [slt_irrefl] at this; cases this
        · exact e
    rw [ascK_unique hl.2 hm.2 ht]

theorem ascK_names {α : Type} {key : α → Str} {l : List α} (h : ascK key l) : ascK id (l.map key) := by
  unfold ascK
  rw [List.pairwise_map]
  exact h
theorem ascK_inj {α : Type} {key : α → Str} {l : List α} (h : ascK key l) {x y : α} (hx : x ∈ l) (hy : y ∈ l) (e : key x = key y) : x = y := by
  obtain ⟨i, hi, rfl⟩ := List.getElem_of_mem hx
  obtain ⟨j, hj, rfl⟩ := List.getElem_of_mem hy
  have hp := List.pairwise_iff_getElem.1 h
  rcases Nat.lt_trichotomy i j with h1 | h1 | h1
  · exact absurd e (slt_ne (hp i j hi hj h1))
  · subst h1; rfl
  · exact absurd e.symm (slt_ne (hp j i hj hi h1))

theorem nodup_ij {α : Type} {l : List α} (h : l.Nodup) {i j : Nat} (hi : i < l.length) (hj : j < l.length) (e : l[i] = l[j]) : i = j := by
  have hp := List.pairwise_iff_getElem.1 (List.nodup_iff_pairwise_ne.1 h)
  rcases Nat.lt_trichotomy i j with h1 | h1 | h1
  · exact absurd e (hp i j hi hj h1)
  · exact h1
  · exact absurd e.symm (hp j i hj hi h1)

/-- An element that is put in the place of one with its name. -/
theorem set_put {α : Type} {key : α → Str} {l : List α} {x : α} {i : Nat} (h : ascK key l) (hi : i < l.length) (e : key l[i] = key x) : l.set i x = putK key l x := by
  have hm : (l.set i x).map key = l.map key := by
    apply List.ext_getElem
    · simp
    · intro j h1 h2
      have hj : j < l.length := by simpa using h2
      simp only [List.getElem_map, List.getElem_set]
      split
      · subst_vars; exact e.symm
      · rfl
  refine ascK_unique (key := key) ?_ (putK_asc h) fun y => ?_
  · have := ascK_names h
    rw [← hm] at this
    unfold ascK at this ⊢
    rw [List.pairwise_map] at this
    exact this
  · rw [putK_mem]
    constructor
    · intro hy
      obtain ⟨j, hj, rfl⟩ := List.getElem_of_mem hy
      rw [List.getElem_set]
      split
      · exact .inl rfl
      · rename_i hne
        have hj' : j < l.length := by simpa using hj
        refine .inr ⟨List.getElem_mem hj', fun e2 => hne ?_⟩
        have := ascK_inj h (List.getElem_mem hi) (List.getElem_mem hj') (e.trans e2.symm)
        have hn : l.Nodup := List.nodup_iff_pairwise_ne.2 (List.Pairwise.imp (fun h2 e3 => by rw [e3, slt_irrefl] at h2; cases h2) h)
        exact nodup_ij hn hi hj' this
    · rintro (rfl | ⟨hy, hne⟩)
      · exact List.mem_iff_getElem.2 ⟨i, by simpa using hi, by simp⟩
      · obtain ⟨j, hj, rfl⟩ := List.getElem_of_mem hy
        have : i ≠ j := fun e2 => by subst e2; exact hne e
        exact List.mem_iff_getElem.2 ⟨j, by simpa using hj, by simp [this]⟩
theorem putK_names {α : Type} {key : α → Str} {l : List α} {x : α} (h : ascK key l) (hx : key x ∈ l.map key) : (putK key l x).map key = l.map key := by
  obtain ⟨y, hy, e⟩ := List.mem_map.1 hx
  obtain ⟨i, hi, rfl⟩ := List.getElem_of_mem hy
  rw [← set_put h hi e]
  apply List.ext_getElem
  · simp
  · intro j h1 h2
    simp only [List.getElem_map, List.getElem_set]
    split
    · subst_vars; exact e.symm
    · rfl
theorem putK_len {α : Type} {key : α → Str} {l : List α} {x : α} : (putK key l x).length ≤ l.length + 1 := by
  unfold putK
  have h : ∀ t : List α, (t.filter fun y => slt (key y) (key x)).length + (t.filter fun y => slt (key x) (key y)).length ≤ t.length := by
    intro t
    induction t with
    | nil => simp
    | cons y t ih =>
      simp only [List.filter_cons]
      cases hs : slt (key y) (key x) with
      | true => rw [slt_asymm hs]; simp; omega
      | false => cases slt (key x) (key y) <;> simp <;> omega
  have := h l
  simp only [List.length_append, List.length_cons]
  omega

/-! ## Names in order, each once -/

def joinL (l : List Str) : List Str := l.foldl (fun a x => putK id a x) []
theorem join_from : ∀ (l a : List Str), ascK id a → ascK id (l.foldl (fun a x => putK id a x) a) ∧ (∀ x, x ∈ l.foldl (fun a x => putK id a x) a ↔ x ∈ a ∨ x ∈ l) ∧ (l.foldl (fun a x => putK id a x) a).length ≤ a.length + l.length
  | [], a, h => ⟨h, fun x => by simp, by simp⟩
  | y :: l, a, h => by
    obtain ⟨h1, h2, h3⟩ := join_from l (putK id a y) (putK_asc h)
    have h4 := putK_len (key := id) (l := a) (x := y)
    refine ⟨h1, fun x => ?_, by rw [List.foldl_cons, List.length_cons]; omega⟩
    rw [List.foldl_cons, h2, putK_mem, List.mem_cons]
    simp only [id]
    by_cases e : x = y
    · subst e; simp
    · simp [e]
theorem join_asc (l : List Str) : ascK id (joinL l) := (join_from l [] List.Pairwise.nil).1
theorem join_mem {l : List Str} {x : Str} : x ∈ joinL l ↔ x ∈ l := by have := (join_from l [] List.Pairwise.nil).2.1 x; unfold joinL; simpa using this
theorem join_len (l : List Str) : (joinL l).length ≤ l.length := by have := (join_from l [] List.Pairwise.nil).2.2; unfold joinL; simpa using this

/-! ## The steps behind a change -/

def nameK (s : Step) : Str := s.name
def withS (l : List Step) (s : Step) : List Step := putK nameK l s
def dropA (n : Str) (gone : List Str) (s : Step) : Step := bif hasB s.after n then ⟨s.name, joinL (s.after.filter (fun x => !seq x n) ++ gone), s.undo⟩ else s
def withoutS (l : List Step) (n : Str) : List Step := (l.map (dropA n (stepOf l n).after)).filter fun s => !seq s.name n
def hasS (l : List Step) (n : Str) : Bool := hasB (l.map (·.name)) n
def chSteps (l : List Step) (c : Change) : Option (List Step) :=
  bif eqb c.kind 1 && !hasS l c.step.name then some (withS l c.step)
  else bif eqb c.kind 2 && hasS l c.step.name then some (withoutS l c.step.name)
  else bif eqb c.kind 3 && hasS l c.step.name then some (withS l ⟨c.step.name, c.step.after, (stepOf l c.step.name).undo⟩)
  else bif eqb c.kind 4 && hasS l c.step.name then some (withS l ⟨c.step.name, (stepOf l c.step.name).after, c.step.undo⟩)
  else none
def chF (f : Flow) (c : Change) : Flow × Bool :=
  bif flowOk f && stepOk c.step then
    match chSteps f.steps c with
    | some st => bif flowOk ⟨f.ver + 1, st⟩ then (⟨f.ver + 1, st⟩, true) else (⟨0, []⟩, false)
    | none => (⟨0, []⟩, false)
  else (⟨0, []⟩, false)

theorem drop_name {n : Str} {g : List Str} (s : Step) : (dropA n g s).name = s.name := by unfold dropA; cases hasB s.after n <;> rfl
theorem drop_undo {n : Str} {g : List Str} (s : Step) : (dropA n g s).undo = s.undo := by unfold dropA; cases hasB s.after n <;> rfl
theorem asc_map {α : Type} {key : α → Str} {l : List α} {h : α → α} (hk : ∀ x, key (h x) = key x) (ha : ascK key l) : ascK key (l.map h) := by
  unfold ascK at *
  rw [List.pairwise_map]
  exact ha.imp fun hab => by rw [hk, hk]; exact hab
theorem without_asc {l : List Step} {n : Str} (h : ascK nameK l) : ascK nameK (withoutS l n) := (asc_map (fun x => drop_name x) h).filter _
theorem without_mem {l : List Step} {n : Str} {x : Step} : x ∈ withoutS l n ↔ ∃ s ∈ l, s.name ≠ n ∧ x = dropA n (stepOf l n).after s := by
  unfold withoutS
  rw [List.mem_filter, List.mem_map]
  constructor
  · rintro ⟨⟨s, hs, rfl⟩, h2⟩
    rw [drop_name] at h2
    exact ⟨s, hs, fun e => (by rw [e, seq_self] at h2; cases h2), rfl⟩
  · rintro ⟨s, hs, h1, rfl⟩
    exact ⟨⟨s, hs, rfl⟩, by rw [drop_name, seq_false.2 h1]; rfl⟩
theorem without_names {l : List Step} {n : Str} : (withoutS l n).map (·.name) = (l.map (·.name)).filter fun x => !seq x n := by
  unfold withoutS
  rw [List.filter_map, List.map_map, List.filter_map]
  have e : ((fun s : Step => !seq s.name n) ∘ dropA n (stepOf l n).after) = ((fun x => !seq x n) ∘ fun s : Step => s.name) := by funext s; simp only [Function.comp, drop_name]
  rw [e]
  refine List.map_congr_left fun s _ => ?_
  simp only [Function.comp, drop_name]

theorem has_iff {l : List Step} {n : Str} : hasS l n = true ↔ ∃ s ∈ l, s.name = n := by
  unfold hasS
  rw [hasB_true, List.mem_map]
theorem has_false {l : List Step} {n : Str} : hasS l n = false ↔ ∀ s ∈ l, s.name ≠ n := by
  constructor
  · intro h s hs e
    rw [has_iff.2 ⟨s, hs, e⟩] at h
    cases h
  · intro h
    cases hc : hasS l n with
    | false => rfl
    | true => obtain ⟨s, hs, e⟩ := has_iff.1 hc; exact absurd e (h s hs)
theorem stepOf_in {l : List Step} {n : Str} (h : hasS l n = true) : stepOf l n ∈ l ∧ (stepOf l n).name = n := by
  obtain ⟨i, hi, e⟩ := at_get h
  unfold stepOf
  rw [e, Int.toNat_natCast, List.getElem?_eq_getElem hi]
  refine ⟨List.getElem_mem hi, ?_⟩
  rcases posOf_cases (fun s : Step => s.name) l n with h1 | ⟨j, hj, h1, h2, _⟩
  · rw [h1.1] at e; omega
  · rw [h1] at e
    obtain rfl : j = i := by omega
    exact h2
theorem stepOf_eq {l : List Step} (ha : ascK nameK l) {s : Step} (hs : s ∈ l) {n : Str} (e : s.name = n) : stepOf l n = s := by
  have h := stepOf_in (has_iff.2 ⟨s, hs, e⟩)
  exact ascK_inj ha h.1 hs (show (stepOf l n).name = s.name by rw [h.2, e])
theorem with_mem {l : List Step} {s x : Step} : x ∈ withS l s ↔ x = s ∨ (x ∈ l ∧ x.name ≠ s.name) := putK_mem

/-- What a change with the answer true tells. -/
theorem ch_cases {f : Flow} {c : Change} (h : (chF f c).2 = true) : flowOk f = true ∧ stepOk c.step = true ∧ ∃ st, chSteps f.steps c = some st ∧ flowOk ⟨f.ver + 1, st⟩ = true ∧ chF f c = (⟨f.ver + 1, st⟩, true) := by
  unfold chF at h ⊢
  cases h1 : flowOk f with
  | false => rw [h1] at h; cases h
  | true =>
    cases h2 : stepOk c.step with
    | false => rw [h1, h2] at h; cases h
    | true =>
      rw [h1, h2] at h
      simp only [Bool.and_self, cond_true] at h ⊢
      cases h3 : chSteps f.steps c with
      | none => rw [h3] at h; cases h
      | some st =>
        rw [h3] at h
        simp only at h ⊢
        cases h4 : flowOk ⟨f.ver + 1, st⟩ with
        | false => rw [h4] at h; cases h
        | true => exact ⟨trivial, trivial, st, rfl, h4, rfl⟩
theorem chF_of {f : Flow} {c : Change} {st : List Step} (h1 : flowOk f = true) (h2 : stepOk c.step = true) (h3 : chSteps f.steps c = some st) (h4 : flowOk ⟨f.ver + 1, st⟩ = true) : chF f c = (⟨f.ver + 1, st⟩, true) := by
  unfold chF
  rw [h1, h2, h3]
  simp only [Bool.and_self, cond_true, h4]
theorem chSteps_cases {l : List Step} {c : Change} {st : List Step} (h : chSteps l c = some st) :
    (c.kind = 1 ∧ hasS l c.step.name = false ∧ st = withS l c.step) ∨ (c.kind = 2 ∧ hasS l c.step.name = true ∧ st = withoutS l c.step.name) ∨
    (c.kind = 3 ∧ hasS l c.step.name = true ∧ st = withS l ⟨c.step.name, c.step.after, (stepOf l c.step.name).undo⟩) ∨ (c.kind = 4 ∧ hasS l c.step.name = true ∧ st = withS l ⟨c.step.name, (stepOf l c.step.name).after, c.step.undo⟩) := by
  unfold chSteps at h
  cases hh : hasS l c.step.name with
  | false =>
    rw [hh] at h
    simp only [Bool.not_false, Bool.and_true, Bool.and_false, cond_false] at h
    cases hk : eqb c.kind 1 with
    | false => rw [hk] at h; cases h
    | true =>
      rw [hk] at h
      injection h with h
      exact .inl ⟨eqb_true.1 hk, rfl, h.symm⟩
  | true =>
    rw [hh] at h
    simp only [Bool.not_true, Bool.and_true, Bool.and_false, cond_false] at h
    cases hk : eqb c.kind 2 with
    | true =>
      rw [hk] at h
      injection h with h
      exact .inr (.inl ⟨eqb_true.1 hk, rfl, h.symm⟩)
    | false =>
      rw [hk] at h
      cases hk3 : eqb c.kind 3 with
      | true =>
        rw [hk3] at h
        injection h with h
        exact .inr (.inr (.inl ⟨eqb_true.1 hk3, rfl, h.symm⟩))
      | false =>
        rw [hk3] at h
        cases hk4 : eqb c.kind 4 with
        | true =>
          rw [hk4] at h
          injection h with h
          exact .inr (.inr (.inr ⟨eqb_true.1 hk4, rfl, h.symm⟩))
        | false => rw [hk4] at h; cases h
theorem flow_ascK {f : Flow} (h : flowOk f = true) : ascK nameK f.steps := flow_asc h
end Go.Proofs.YtmnhnldnnniglaaGreat
