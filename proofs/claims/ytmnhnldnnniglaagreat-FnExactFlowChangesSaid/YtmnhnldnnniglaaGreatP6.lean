/- The exact laws about registries, same flows and what does not fit, in plain words. -/
import Derived.Test.YtmnhnldnnniglaaGreatP5
import Derived.Test.YtmnhnldnnniglaaGreatO
set_option linter.all false
namespace Go.Proofs.YtmnhnldnnniglaaGreat

theorem hugeF_of {f : Flow} (h : szF f) : hugeF f := ⟨h.2.1, fun s hs => ⟨(h.2.2 s hs).1, (h.2.2 s hs).2.1⟩⟩

/-! ## Same flows -/

def stepEq (a b : Step) : Bool := seq a.name b.name && ((a.undo == b.undo) && decide (a.after = b.after))
theorem stepEq_true (a b : Step) : stepEq a b = true ↔ a = b := by
  unfold stepEq
  rw [Bool.and_eq_true, Bool.and_eq_true, seq_iff, beq_iff_eq, decide_eq_true_eq]
  cases a; cases b
  simp only [Step.mk.injEq]
  exact ⟨fun ⟨a, b, c⟩ => ⟨a, c, b⟩, fun ⟨a, b, c⟩ => ⟨a, c, b⟩⟩
/-- Whether two fine flows have the same steps. -/
def sameF (f g : Flow) : Bool := flowOk f && (flowOk g && (eqb (f.steps.length : Nat) (g.steps.length : Nat) && allIdx (fun k s => match g.steps[k]? with | some t => stepEq s t | none => false) 0 f.steps))

/-! ## What does not fit -/

/-- Whether the step at place k of what is done does not fit. -/
def badK (steps : List Step) (done : List Str) (k : Nat) (y : Str) : Bool := !hasB (steps.map (·.name)) y || (hasB (done.take k) y || match steps[(posOf (·.name) steps y).toNat]? with | some s => !haveB (done.take k) s.after | none => true)

theorem at_get {steps : List Step} {y : Str} (h : hasB (steps.map (·.name)) y = true) : ∃ (i : Nat) (hi : i < steps.length), posOf (·.name) steps y = i := by
  rcases posOf_cases (fun s : Step => s.name) steps y with h1 | ⟨i, hi, h1, _⟩
  · rw [hasB_true] at h
    obtain ⟨s, hs, rfl⟩ := List.mem_map.1 h
    obtain ⟨i, hi, rfl⟩ := List.getElem_of_mem hs
    exact absurd rfl (h1.2 i hi)
  · exact ⟨i, hi, h1⟩

def firstBad (steps : List Step) (done : List Str) : Nat → List Str → Option Str
  | _, [] => none
  | k, y :: t => bif badK steps done k y then some y else firstBad steps done (k + 1) t

theorem seek_list {α β R : Type} (p : Nat → α → Bool) (r : α → R) (F : Nat → Nat → Option (Ex β R)) (l : List α) (b : Nat → β) (N : Nat) (hN : l.length < N)
    (hn : ∀ n k, k = l.length → F (n + 1) k = some (.brk (b k)))
    (hF : ∀ n k (h : k < l.length), (∀ j (hj : j < k), p j (l[j]'(by omega)) = false) → F (n + 1) k = bif p k l[k] then some (.ret (r l[k])) else F n (k + 1)) :
    (∀ i (h : i < l.length), p i l[i] = true → (∀ j (hj : j < i), p j (l[j]'(by omega)) = false) → F N 0 = some (.ret (r l[i]))) ∧ ((∀ i (h : i < l.length), p i l[i] = false) → F N 0 = some (.brk (b l.length))) := by
  have key : ∀ (m n k : Nat), l.length - k = m → k ≤ l.length → m < n → (∀ j (hj : j < k) (h : j < l.length), p j l[j] = false) → (∀ i (h : i < l.length), p i l[i] = true → (∀ j (hj : j < i), p j (l[j]'(by omega)) = false) → F n k = some (.ret (r l[i]))) ∧ ((∀ i (h : i < l.length), p i l[i] = false) → F n k = some (.brk (b l.length))) := by
    intro m
    induction m with
    | zero =>
      intro n k hm hk hn' hp
      obtain ⟨n, rfl⟩ : ∃ n', n = n' + 1 := ⟨n - 1, by omega⟩
      have : k = l.length := by omega
      refine ⟨fun i h h1 _ => ?_, fun _ => by rw [hn n k this, this]⟩
      rw [hp i (by omega) h] at h1; cases h1
    | succ m ih =>
      intro n k hm hk hn' hp
      obtain ⟨n, rfl⟩ : ∃ n', n = n' + 1 := ⟨n - 1, by omega⟩
      have hkl : k < l.length := by omega
      rw [hF n k hkl (fun j hj => hp j hj (by omega))]
      cases hc : p k l[k] with
      | true =>
        refine ⟨fun i h h1 h2 => ?_, fun h => by rw [h k hkl] at hc; cases hc⟩
        have : i = k := by
          rcases Nat.lt_trichotomy i k with h3 | h3 | h3
          · rw [hp i h3 h] at h1; cases h1
          · exact h3
          · rw [h2 k h3] at hc; cases hc
        subst this; rfl
      | false =>
        exact ih n (k + 1) (by omega) (by omega) (by omega) (fun j hj h => by
          rcases Nat.lt_or_ge j k with h3 | h3
          · exact hp j h3 h
          · obtain rfl : j = k := by omega
            exact hc)
  exact key l.length N 0 (by omega) (by omega) hN (fun j hj => by omega)

/-- What is told of the first step that does not fit. -/
def badOf (steps : List Step) (done : List Str) : Str × Bool := match firstBad steps done 0 done with | some y => (y, true) | none => (⟨#[]⟩, false)

theorem firstBad_cases (steps : List Step) (done : List Str) : ∀ (t : List Str) (k : Nat), (firstBad steps done k t = none ∧ ∀ i (h : i < t.length), badK steps done (k + i) t[i] = false) ∨ ∃ i, ∃ h : i < t.length, firstBad steps done k t = some t[i] ∧ badK steps done (k + i) t[i] = true ∧ ∀ j (hj : j < i), badK steps done (k + j) (t[j]'(by omega)) = false
  | [], k => .inl ⟨rfl, fun i h => by simp at h⟩
  | y :: t, k => by
    unfold firstBad
    cases hc : badK steps done k y with
    | true => exact .inr ⟨0, by simp, rfl, by simpa using hc, fun j hj => by omega⟩
    | false =>
      simp only [cond_false]
      rcases firstBad_cases steps done t (k + 1) with ⟨h1, h2⟩ | ⟨i, hi, h1, h2, h3⟩
      · refine .inl ⟨h1, fun i h => ?_⟩
        cases i with
        | zero => simpa using hc
        | succ i => have := h2 i (by simpa using h); simpa [Nat.add_assoc, Nat.add_comm 1 i] using this
      · refine .inr ⟨i + 1, by simpa using hi, by simpa using h1, by simpa [Nat.add_assoc, Nat.add_comm 1 i] using h2, fun j hj => ?_⟩
        cases j with
        | zero => simpa using hc
        | succ j => have := h3 j (by omega); simpa [Nat.add_assoc, Nat.add_comm 1 j] using this

theorem seek_bad {β : Type} {steps : List Step} {done : List Str} {F : Nat → Nat → Option (Ex β (Str × Bool))} {b : Nat → β} {N : Nat} (hN : done.length < N)
    (hn : ∀ n k, k = done.length → F (n + 1) k = some (.brk (b k)))
    (hF : ∀ n k (h : k < done.length), (∀ j (hj : j < k), badK steps done j (done[j]'(by omega)) = false) → F (n + 1) k = bif badK steps done k done[k] then some (.ret (done[k], true)) else F n (k + 1)) :
    ((F N 0).bind fun e => e.go (fun r => r) fun _ => some ((⟨#[]⟩ : Str), false)) = some (badOf steps done) := by
  have k := seek_list (badK steps done) (fun y => (y, true)) F done b N hN hn hF
  unfold badOf
  rcases firstBad_cases steps done done 0 with ⟨h1, h2⟩ | ⟨i, hi, h1, h2, h3⟩
  · rw [h1, k.2 (fun i h => by simpa using h2 i h)]; rfl
  · rw [h1, k.1 i hi (by simpa using h2) (fun j hj => by simpa using h3 j hj)]; rfl

def bothBad (g : Flow) (done : List Str) : Str × Bool := bif flowOk g then badOf g.steps done else (⟨#[]⟩, false)

end Go.Proofs.YtmnhnldnnniglaaGreat
