/- Who may move along with a change. -/
import Derived.Test.YtmnhnldnnniglaaGreatP44
import Derived.Test.YtmnhnldnnniglaaGreatP20
set_option linter.all false
namespace Go.Proofs.YtmnhnldnnniglaaGreat

def placeB (d : List Str) (a : Str) : Int := bif ltb (posOf id d a) 0 then ((d.length : Nat) : Int) else posOf id d a
def afterC (d : List Str) (s : Step) : Bool := bif leb 0 (posOf id d s.name) then s.after.all (fun a => !ltb (posOf id d s.name) (placeB d a)) else true
def kindC (c : Change) (d : List Str) : Bool := bif eqb c.kind 2 then ltb (posOf id d c.step.name) 0 else bif eqb c.kind 3 then afterC d c.step else true
def mayB (f : Flow) (c : Change) (r : Run) : Bool := (chF f c).2 && (runOk f r && ((eqb r.state 0 || eqb r.state 2) && ordOk (chF f c).1.steps r.done))

theorem take_iff {d : List Str} (hn : d.Nodup) {j p : Nat} (hp : p < d.length) : d[p] ∈ d.take j ↔ p < j := by
  constructor
  · intro h
    obtain ⟨q, hq, e⟩ := List.getElem_of_mem h
    rw [List.length_take] at hq
    rw [List.getElem_take] at e
    have := nodup_ij hn (by omega) hp e
    omega
  · intro h
    exact List.mem_iff_getElem.2 ⟨p, by rw [List.length_take]; omega, by rw [List.getElem_take]⟩

/-- What is done in a flow is done behind a change, by the change's kind alone. -/
theorem kind_ord {f : Flow} {c : Change} {st : List Step} {d : List Str} (hf : flowOk f = true) (hc : stepOk c.step = true) (h : chSteps f.steps c = some st) (hd : ordOk f.steps d = true) : ordOk st d = kindC c d := by
  have ha := flow_ascK hf
  obtain ⟨hn, hi⟩ := ord_iff.1 hd
  have e12 : eqb (1 : Int) 2 = false := eqb_false.2 (by omega)
  have e13 : eqb (1 : Int) 3 = false := eqb_false.2 (by omega)
  have e22 : eqb (2 : Int) 2 = true := eqb_true.2 rfl
  have e32 : eqb (3 : Int) 2 = false := eqb_false.2 (by omega)
  have e33 : eqb (3 : Int) 3 = true := eqb_true.2 rfl
  have e42 : eqb (4 : Int) 2 = false := eqb_false.2 (by omega)
  have e43 : eqb (4 : Int) 3 = false := eqb_false.2 (by omega)
  unfold kindC
  rcases chSteps_cases h with ⟨k, hh, rfl⟩ | ⟨k, hh, rfl⟩ | ⟨k, hh, rfl⟩ | ⟨k, hh, rfl⟩
  · rw [k, e12, e13]
    refine ord_iff.2 ⟨hn, fun i h => ?_⟩
    have h1 := hi i h
    have hne : d[i] ≠ c.step.name := fun e => by rw [e, hh] at h1; cases h1.1
    rw [with_hasO hne, with_stepO ha hne h1.1]
    exact h1
  · rw [k, e22, cond_true, Bool.eq_iff_iff, ord_iff, hasB_neg, Bool.not_eq_true', ← Bool.not_eq_true, hasB_true]
    constructor
    · rintro ⟨_, h2⟩ hm
      obtain ⟨i, h3, e⟩ := List.getElem_of_mem hm
      have := (h2 i h3).1
      rw [e, without_has] at this
      cases this
    · intro hm
      refine ⟨hn, fun i h => ?_⟩
      have h1 := hi i h
      have hne : d[i] ≠ c.step.name := fun e => hm (e ▸ List.getElem_mem h)
      have hna : hasB (stepOf f.steps d[i]).after c.step.name = false := by
        cases hx : hasB (stepOf f.steps d[i]).after c.step.name with
        | false => rfl
        | true => exact absurd (List.mem_of_mem_take (h1.2 _ (hasB_true.1 hx))) hm
      rw [without_hasO hne, without_stepO ha hne h1.1, drop_not hna]
      exact h1
  · rw [k, e32, cond_false, e33, cond_true]
    have other : ∀ i (h : i < d.length), d[i] ≠ c.step.name → hasS (withS f.steps ⟨c.step.name, c.step.after, (stepOf f.steps c.step.name).undo⟩) d[i] = true ∧ ∀ a ∈ (stepOf (withS f.steps ⟨c.step.name, c.step.after, (stepOf f.steps c.step.name).undo⟩) d[i]).after, a ∈ d.take i := fun i h hne => by
      have h1 := hi i h
      rw [with_hasO (s := ⟨c.step.name, c.step.after, (stepOf f.steps c.step.name).undo⟩) hne, with_stepO (s := ⟨c.step.name, c.step.after, (stepOf f.steps c.step.name).undo⟩) ha hne h1.1]
      exact h1
    have hno : c.step.name ∉ c.step.after := by
      unfold stepOk at hc
      simp only [Bool.and_eq_true, Bool.not_eq_true'] at hc
      intro hm
      rw [hasB_true.2 hm] at hc
      cases hc.1.2
    unfold afterC
    rcases posOf_cases (id : Str → Str) d c.step.name with ⟨hp, hq⟩ | ⟨j, hj, hp, hq, _⟩
    · rw [hp, leb_false.2 (by omega), cond_false]
      exact ord_iff.2 ⟨hn, fun i h => other i h (hq i h)⟩
    · simp only [id] at hq
      rw [hp, leb_true.2 (by omega), cond_true, Bool.eq_iff_iff, ord_iff, List.all_eq_true]
      have est : stepOf (withS f.steps ⟨c.step.name, c.step.after, (stepOf f.steps c.step.name).undo⟩) c.step.name = ⟨c.step.name, c.step.after, (stepOf f.steps c.step.name).undo⟩ := stepOf_eq (with_asc ha) (with_mem.2 (.inl rfl)) rfl
      have key : ∀ a ∈ c.step.after, (!ltb ((j : Nat) : Int) (placeB d a)) = true ↔ a ∈ d.take j := fun a hac => by
        unfold placeB
        rcases posOf_cases (id : Str → Str) d a with ⟨hp2, hq2⟩ | ⟨p, hp3, hp2, hq2, _⟩
        · rw [hp2, show ltb (-1) 0 = true from ltb_true.2 (by omega), cond_true, ltb_true.2 (by omega)]
          constructor
          · intro hx; cases hx
          · intro hx
            obtain ⟨q, hq3, e⟩ := List.getElem_of_mem (List.mem_of_mem_take hx)
            exact absurd e (hq2 q hq3)
        · simp only [id] at hq2
          rw [hp2, show ltb ((p : Nat) : Int) 0 = false from ltb_false.2 (by omega), cond_false, ← hq2, take_iff hn hp3, Bool.not_eq_true', ltb_false]
          constructor
          · intro hx
            rcases Nat.lt_or_ge p j with h5 | h5
            · exact h5
            · obtain rfl : p = j := by omega
              exact absurd (show c.step.name ∈ c.step.after by rw [← hq, hq2]; exact hac) hno
          · intro hx; omega
      constructor
      · rintro ⟨_, h2⟩ a hac
        have := (h2 j hj).2 a (by rw [hq, est]; exact hac)
        exact (key a hac).2 this
      · intro h2
        refine ⟨hn, fun i h => ?_⟩
        by_cases e : d[i] = c.step.name
        · obtain rfl : i = j := nodup_ij hn h hj (e.trans hq.symm)
          rw [hq, est]
          exact ⟨has_iff.2 ⟨⟨c.step.name, c.step.after, (stepOf f.steps c.step.name).undo⟩, with_mem.2 (.inl rfl), rfl⟩, fun a hac => (key a hac).1 (h2 a hac)⟩
        · exact other i h e
  · rw [k, e42, e43]
    refine ord_iff.2 ⟨hn, fun i h => ?_⟩
    have h1 := hi i h
    by_cases e : d[i] = c.step.name
    · have est : stepOf (withS f.steps ⟨c.step.name, (stepOf f.steps c.step.name).after, c.step.undo⟩) c.step.name = ⟨c.step.name, (stepOf f.steps c.step.name).after, c.step.undo⟩ := stepOf_eq (with_asc ha) (with_mem.2 (.inl rfl)) rfl
      rw [e, est]
      rw [e] at h1
      exact ⟨has_iff.2 ⟨⟨c.step.name, (stepOf f.steps c.step.name).after, c.step.undo⟩, with_mem.2 (.inl rfl), rfl⟩, h1.2⟩
    · rw [with_hasO (s := ⟨c.step.name, (stepOf f.steps c.step.name).after, c.step.undo⟩) e, with_stepO (s := ⟨c.step.name, (stepOf f.steps c.step.name).after, c.step.undo⟩) ha e h1.1]
      exact h1

/-! ## Both sides -/

def ordP (steps : List Step) (d : List Str) (k : Nat) (y : Str) : Bool := hasS steps y && haveB (d.take k) (stepOf steps y).after
theorem ordP_ord {steps : List Step} {d : List Str} (hn : d.Nodup) : allIdx (ordP steps d) 0 d = ordOk steps d := by
  rw [Bool.eq_iff_iff, allIdx_true, ord_iff]
  constructor
  · intro h
    refine ⟨hn, fun i hi => ?_⟩
    have := h i hi
    unfold ordP haveB at this
    rw [Bool.and_eq_true, Nat.zero_add, List.all_eq_true] at this
    exact ⟨this.1, fun a ha => hasB_true.1 (this.2 a ha)⟩
  · rintro ⟨_, h⟩ i hi
    unfold ordP haveB
    rw [Bool.and_eq_true, Nat.zero_add, List.all_eq_true]
    exact ⟨(h i hi).1, fun a ha => hasB_true.2 ((h i hi).2 a ha)⟩

theorem may_loop {N B : Nat} {g : Flow} {b : Bool} {r : Run} (hg : smallF g B) (hr : r.done.length ≤ B) (hN : B < N) (F : Nat → Nat → Option (Ex Nat Bool))
    (hF : ∀ n s39, F (n + 1) s39 = (bif ltb ((s39 : Nat) : Int) ((r.done.length : Nat) : Int) then (r.done[s39]?).bind fun y42 => (m_impl_Flow_at N g y42).bind fun x46 => (bif ltb x46 0 then some (Ex.ret false)
 else (slTo r.done ((s39 : Nat) : Int)).bind fun l53 => (geti g.steps x46).bind fun y57 => (m_impl_NamesHave N l53 y57.after).bind fun x60 => (bif !x60 then some (Ex.ret false)
 else F n (s39 + 1)))
 else some (Ex.brk (s39)))) : F N 0 = some (bif allIdx (ordP g.steps r.done) 0 r.done then .brk r.done.length else .ret false) := by
  have hlg := hg.1
  refine all_list (ordP g.steps r.done) false F r.done (fun k => k) N (by omega) ?_ ?_
  · rintro n k rfl
    rw [hF, ltb_false.2 (by omega)]; rfl
  · intro n k h
    rw [hF, ltb_true.2 (by omega), cond_true, List.getElem?_eq_getElem h, Option.bind_some, e_Flow_at (by omega), Option.bind_some, hasB_map]
    unfold ordP
    have e0 : hasB (g.steps.map fun x => x.name) r.done[k] = hasS g.steps r.done[k] := rfl
    rw [e0]
    cases hh : hasS g.steps r.done[k] with
    | false => rfl
    | true =>
      obtain ⟨i, hi, e1, e2, e3, e4⟩ := get_in hh
      have h4 := (hg.2 _ (stepOf_in hh).1).2.1
      simp only [Bool.not_true, cond_false]
      rw [slTo_nat (by omega), Option.bind_some, e2, Option.bind_some, e_NamesHave (by rw [List.length_take]; omega) (by omega), Option.bind_some, Bool.true_and]
      cases haveB (r.done.take k) (stepOf g.steps r.done[k]).after <;> rfl

theorem may_kind {f : Flow} {c : Change} {r : Run} : mayB f c r = ((chF f c).2 && (runOk f r && ((eqb r.state 0 || eqb r.state 2) && kindC c r.done))) := by
  unfold mayB
  cases h1 : (chF f c).2 with
  | false => rfl
  | true =>
    cases h2 : runOk f r with
    | false => rfl
    | true =>
      obtain ⟨o1, o2, st, h3, h4, h5⟩ := ch_cases h1
      rw [h5, kind_ord o1 o2 h3 (run_parts h2).2.1]

end Go.Proofs.YtmnhnldnnniglaaGreat
