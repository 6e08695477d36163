/- A run as one of another flow, and of a third one. -/
import Derived.Test.YtmnhnldnnniglaaGreatP17
set_option linter.all false
namespace Go.Proofs.YtmnhnldnnniglaaGreat

theorem st_cases {steps : List Step} {r : Run} (h : stOk steps r = true) : (r.state = 0 ∧ r.done.length < steps.length) ∨ (r.state = 2 ∧ r.done.length = steps.length) ∨ (r.state = 1 ∧ r.done.length < steps.length ∧ lastU steps r.done = true) ∨ (r.state = 3 ∧ r.done.length < steps.length ∧ lastU steps r.done = false) := by
  unfold stOk at h
  by_cases h0 : r.state = 0
  · rw [h0, eq00, cond_true, ltb_true] at h
    exact .inl ⟨h0, by omega⟩
  by_cases h2 : r.state = 2
  · rw [h2, eq20, eq22, cond_false, cond_true, eqb_true] at h
    exact .inr (.inl ⟨h2, by omega⟩)
  by_cases h1 : r.state = 1
  · rw [h1, eq10, eq12, eq11, cond_false, cond_false, cond_true, Bool.and_eq_true, ltb_true] at h
    exact .inr (.inr (.inl ⟨h1, by omega, h.2⟩))
  by_cases h3 : r.state = 3
  · rw [h3, eq30, eq32, eq31, eq33, cond_false, cond_false, cond_false, cond_true, Bool.and_eq_true, ltb_true, Bool.not_eq_true'] at h
    exact .inr (.inr (.inr ⟨h3, by omega, h.2⟩))
  rw [eqb_false.2 h0, eqb_false.2 h1, eqb_false.2 h2, eqb_false.2 h3] at h
  cases h

theorem run_parts {f : Flow} {r : Run} (h : runOk f r = true) : flowOk f = true ∧ ordOk f.steps r.done = true ∧ stOk f.steps r = true := by
  unfold runOk at h
  rw [Bool.and_eq_true, Bool.and_eq_true] at h
  exact h

theorem fit_done (f g : Flow) (r : Run) : (fitRun f g r).1.done = r.done ∨ (fitRun f g r).1.done = [] := by
  unfold fitRun
  cases runOk f r && (flowOk g && ordOk g.steps r.done) with
  | false => exact .inr rfl
  | true =>
    cases eqb r.state 0 || eqb r.state 2 with
    | true => exact .inl rfl
    | false =>
      cases eqb ((r.done.length : Nat) : Int) ((g.steps.length : Nat) : Int) with
      | true => exact .inr rfl
      | false => exact .inl rfl
theorem fit_len {f g : Flow} {r : Run} {B : Nat} (h : r.done.length ≤ B) : (fitRun f g r).1.done.length ≤ B := by
  rcases fit_done f g r with e | e <;> rw [e]
  · exact h
  · simp

def moveBoth (f g h : Flow) (r : Run) : Run × Bool := bif (fitRun f g r).2 then fitRun g h (fitRun f g r).1 else (⟨0, []⟩, false)
theorem both_len {f g h : Flow} {r : Run} {B : Nat} (hr : r.done.length ≤ B) : (moveBoth f g h r).1.done.length ≤ B := by
  unfold moveBoth
  cases (fitRun f g r).2 with
  | false => simp
  | true => exact fit_len (fit_len hr)

/-! ## What a run that fits has -/

theorem fit_true {f g : Flow} {r : Run} (h : (fitRun f g r).2 = true) : runOk f r = true ∧ flowOk g = true ∧ ordOk g.steps r.done = true ∧ (fitRun f g r).1.done = r.done ∧
    (((r.state = 0 ∨ r.state = 2) ∧ (fitRun f g r).1.state = bif eqb ((r.done.length : Nat) : Int) ((g.steps.length : Nat) : Int) then 2 else 0) ∨
     ((r.state = 1 ∨ r.state = 3) ∧ r.done.length < g.steps.length ∧ (fitRun f g r).1.state = bif lastU g.steps r.done then 1 else 3)) := by
  unfold fitRun at h ⊢
  cases hr : runOk f r with
  | false => rw [hr] at h; cases h
  | true =>
    cases hok : flowOk g with
    | false => rw [hr, hok] at h; cases h
    | true =>
      cases ho : ordOk g.steps r.done with
      | false => rw [hr, hok, ho] at h; cases h
      | true =>
        have hl := ord_len ho
        rw [hr, hok, ho] at h
        simp only [Bool.and_true, cond_true] at h ⊢
        rcases st_cases (run_parts hr).2.2 with ⟨hs, _⟩ | ⟨hs, _⟩ | ⟨hs, _⟩ | ⟨hs, _⟩
        · rw [hs, eq00]
          exact ⟨trivial, trivial, trivial, rfl, .inl ⟨.inl rfl, rfl⟩⟩
        · rw [hs, eq20, eq22]
          exact ⟨trivial, trivial, trivial, rfl, .inl ⟨.inr rfl, rfl⟩⟩
        · rw [hs, eq10, eq12] at h ⊢
          cases he : eqb ((r.done.length : Nat) : Int) ((g.steps.length : Nat) : Int) with
          | true => rw [he] at h; cases h
          | false => exact ⟨trivial, trivial, trivial, rfl, .inr ⟨.inl rfl, by have := eqb_false.1 he; omega, rfl⟩⟩
        · rw [hs, eq30, eq32] at h ⊢
          cases he : eqb ((r.done.length : Nat) : Int) ((g.steps.length : Nat) : Int) with
          | true => rw [he] at h; cases h
          | false => exact ⟨trivial, trivial, trivial, rfl, .inr ⟨.inr rfl, by have := eqb_false.1 he; omega, rfl⟩⟩

/-- The run that fits is one of the other flow. -/
theorem fit_ok {f g : Flow} {r : Run} (h : (fitRun f g r).2 = true) : runOk g (fitRun f g r).1 = true := by
  obtain ⟨_, h2, h3, h4, h5⟩ := fit_true h
  have hl := ord_len h3
  unfold runOk stOk
  rw [h4, h2, h3, Bool.true_and, Bool.true_and]
  rcases h5 with ⟨_, hs⟩ | ⟨_, hlt, hs⟩
  · rw [hs]
    cases he : eqb ((r.done.length : Nat) : Int) ((g.steps.length : Nat) : Int) with
    | true => rw [cond_true, eq20, eq22]; rfl
    | false => rw [cond_false, eq00, cond_true, ltb_true.2 (by have := eqb_false.1 he; omega)]
  · rw [hs, ltb_true.2 (by omega)]
    cases lastU g.steps r.done with
    | true => rw [cond_true, eq10, eq12, eq11]; rfl
    | false => rw [cond_false, eq30, eq32, eq31, eq33]; rfl

/-- A run that fits is told by its form. -/
theorem fit_mk {f g : Flow} {r x : Run} (h1 : runOk f r = true) (h2 : flowOk g = true) (h3 : ordOk g.steps r.done = true) (hx : x.done = r.done)
    (h : ((r.state = 0 ∨ r.state = 2) ∧ x.state = bif eqb ((r.done.length : Nat) : Int) ((g.steps.length : Nat) : Int) then 2 else 0) ∨ ((r.state = 1 ∨ r.state = 3) ∧ r.done.length < g.steps.length ∧ x.state = bif lastU g.steps r.done then 1 else 3)) : fitRun f g r = (x, true) := by
  obtain ⟨xs, xd⟩ := x
  simp only at hx h
  subst hx
  unfold fitRun
  rw [h1, h2, h3]
  simp only [Bool.and_true, cond_true]
  rcases h with ⟨hs | hs, h⟩ | ⟨hs | hs, hl, h⟩
  · rw [hs, eq00, h]; rfl
  · rw [hs, eq20, eq22, h]; rfl
  · rw [hs, eq10, eq12, h, eqb_false.2 (by omega)]; rfl
  · rw [hs, eq30, eq32, h, eqb_false.2 (by omega)]; rfl

/-- A run is one of its own flow. -/
theorem fit_self {f : Flow} {r : Run} (h : runOk f r = true) : fitRun f f r = (r, true) := by
  obtain ⟨h1, h2, h3⟩ := run_parts h
  refine fit_mk h h1 h2 rfl ?_
  rcases st_cases h3 with ⟨hs, hl⟩ | ⟨hs, hl⟩ | ⟨hs, hl, hu⟩ | ⟨hs, hl, hu⟩
  · exact .inl ⟨.inl hs, by rw [eqb_false.2 (by omega)]; exact hs⟩
  · exact .inl ⟨.inr hs, by rw [eqb_true.2 (by omega)]; exact hs⟩
  · exact .inr ⟨.inl hs, hl, by rw [hu]; exact hs⟩
  · exact .inr ⟨.inr hs, hl, by rw [hu]; exact hs⟩

/-- By way of another flow a run comes to what it comes to at once. -/
theorem fit_way {f g h : Flow} {r : Run} (h1 : (fitRun f g r).2 = true) (h2 : (fitRun g h (fitRun f g r).1).2 = true) : fitRun f h r = fitRun g h (fitRun f g r).1 := by
  obtain ⟨a1, a2, a3, a4, a5⟩ := fit_true h1
  obtain ⟨b1, b2, b3, b4, b5⟩ := fit_true h2
  rw [a4] at b3 b4 b5
  have e : fitRun g h (fitRun f g r).1 = ((fitRun g h (fitRun f g r).1).1, true) := by rw [← h2]
  rw [e]
  refine fit_mk a1 b2 b3 b4 ?_
  rcases a5 with ⟨as_, ae⟩ | ⟨as_, al_, ae⟩
  · left
    refine ⟨as_, ?_⟩
    rcases b5 with ⟨_, be⟩ | ⟨bs, _, be⟩
    · exact be
    · exfalso
      rw [ae] at bs
      cases he : eqb ((r.done.length : Nat) : Int) ((g.steps.length : Nat) : Int) <;> rw [he] at bs <;> simp at bs
  · right
    refine ⟨as_, ?_⟩
    rcases b5 with ⟨bs, be⟩ | ⟨_, bl, be⟩
    · exfalso
      rw [ae] at bs
      cases he : lastU g.steps r.done <;> rw [he] at bs <;> simp at bs
    · exact ⟨bl, be⟩

/-- A run that fits can go back to its flow. -/
theorem fit_back {f g : Flow} {r : Run} (h : (fitRun f g r).2 = true) : fitRun g f (fitRun f g r).1 = (r, true) := by
  obtain ⟨a1, a2, a3, a4, a5⟩ := fit_true h
  obtain ⟨c1, c2, c3⟩ := run_parts a1
  refine fit_mk (fit_ok h) c1 (by rw [a4]; exact c2) a4.symm ?_
  rw [a4]
  rcases st_cases c3 with ⟨hs, hl⟩ | ⟨hs, hl⟩ | ⟨hs, hl, hu⟩ | ⟨hs, hl, hu⟩
  · left
    rcases a5 with ⟨_, e⟩ | ⟨bad | bad, _⟩
    · refine ⟨?_, by rw [eqb_false.2 (by omega)]; exact hs⟩
      rw [e]
      cases eqb ((r.done.length : Nat) : Int) ((g.steps.length : Nat) : Int)
      · exact .inl rfl
      · exact .inr rfl
    · omega
    · omega
  · left
    rcases a5 with ⟨_, e⟩ | ⟨bad | bad, _⟩
    · refine ⟨?_, by rw [eqb_true.2 (by omega)]; exact hs⟩
      rw [e]
      cases eqb ((r.done.length : Nat) : Int) ((g.steps.length : Nat) : Int)
      · exact .inl rfl
      · exact .inr rfl
    · omega
    · omega
  · right
    rcases a5 with ⟨bad | bad, _⟩ | ⟨_, _, e⟩
    · omega
    · omega
    · refine ⟨?_, hl, by rw [hu]; exact hs⟩
      rw [e]
      cases lastU g.steps r.done
      · exact .inr rfl
      · exact .inl rfl
  · right
    rcases a5 with ⟨bad | bad, _⟩ | ⟨_, _, e⟩
    · omega
    · omega
    · refine ⟨?_, hl, by rw [hu]; exact hs⟩
      rw [e]
      cases lastU g.steps r.done
      · exact .inr rfl
      · exact .inl rfl
end Go.Proofs.YtmnhnldnnniglaaGreat
