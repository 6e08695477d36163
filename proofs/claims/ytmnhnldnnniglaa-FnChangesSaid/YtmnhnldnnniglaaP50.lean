/- Changes one after the other. -/
import Derived.Test.YtmnhnldnnniglaaP44
set_option linter.all false
namespace Go.Proofs.Ytmnhnldnnniglaa

def chL : Flow → List Change → Flow × Bool
  | f, [] => (f, true)
  | f, c :: t => bif (chF f c).2 then chL (chF f c).1 t else (⟨0, []⟩, false)
def chAll (f : Flow) (l : List Change) : Flow × Bool := bif flowOk f then chL f l else (⟨0, []⟩, false)

theorem chL_cons (f : Flow) (c : Change) (t : List Change) : chL f (c :: t) = bif (chF f c).2 then chL (chF f c).1 t else (⟨0, []⟩, false) := rfl
theorem ch_true_ok {f : Flow} {c : Change} (h : (chF f c).2 = true) : flowOk (chF f c).1 = true := by
  obtain ⟨_, _, st, _, h4, h5⟩ := ch_cases h
  rw [h5]; exact h4
theorem chL_small : ∀ (l : List Change) (f : Flow), smallF f 8 → smallF (chL f l).1 8
  | [], f, h => h
  | c :: t, f, h => by
    unfold chL
    cases (chF f c).2 with
    | true => exact chL_small t _ (chF_small f c)
    | false => exact ⟨by simp, by simp⟩
theorem chL_ok : ∀ (l : List Change) (f : Flow), flowOk f = true → (chL f l).2 = true → flowOk (chL f l).1 = true
  | [], f, h, _ => h
  | c :: t, f, h, h2 => by
    unfold chL at h2 ⊢
    cases hc : (chF f c).2 with
    | true => rw [hc] at h2; exact chL_ok t _ (ch_true_ok hc) h2
    | false => rw [hc] at h2; cases h2
theorem chL_ver : ∀ (l : List Change) (f : Flow), (chL f l).2 = true → (chL f l).1.ver = f.ver + l.length
  | [], f, _ => by simp [chL]
  | c :: t, f, h2 => by
    unfold chL at h2 ⊢
    cases hc : (chF f c).2 with
    | true =>
      rw [hc] at h2
      obtain ⟨_, _, st, _, h4, h5⟩ := ch_cases hc
      simp only [cond_true] at h2 ⊢
      rw [chL_ver t _ h2, h5, List.length_cons]
      simp only
      omega
    | false => rw [hc] at h2; cases h2
theorem chL_append : ∀ (l m : List Change) (f : Flow), chL f (l ++ m) = bif (chL f l).2 then chL (chL f l).1 m else (⟨0, []⟩, false)
  | [], m, f => rfl
  | c :: t, m, f => by
    rw [List.cons_append, chL_cons, chL_cons]
    cases (chF f c).2 with
    | true => simp only [cond_true]; exact chL_append t m _
    | false => rfl

theorem chAll_true {f : Flow} {l : List Change} (h : (chAll f l).2 = true) : flowOk f = true ∧ (chL f l).2 = true ∧ chAll f l = chL f l := by
  unfold chAll at h ⊢
  cases hf : flowOk f with
  | true => rw [hf] at h; exact ⟨rfl, h, rfl⟩
  | false => rw [hf] at h; cases h
theorem chAll_small {f : Flow} {l : List Change} (hf : smallF f 8) : smallF (chAll f l).1 8 := by
  unfold chAll
  cases flowOk f with
  | true => exact chL_small l f hf
  | false => exact ⟨by simp, by simp⟩
theorem chAll_small2 {f : Flow} {l : List Change} : smallF (chAll f l).1 8 := by
  unfold chAll
  cases hf : flowOk f with
  | true => exact chL_small l f (flow_small hf)
  | false => exact ⟨by simp, by simp⟩
end Go.Proofs.Ytmnhnldnnniglaa
