/- The law: flows with the same steps need no changes. -/
import Derived.Test.YthmifmpllgofkaaP32
set_option linter.all false
namespace Go.Proofs.Ythmifmpllgofkaa

theorem stepOf_small {f : Flow} {B : Nat} (hf : smallF f B) (n : Str) : (stepOf f.steps n).after.length ≤ B := by
  unfold stepOf
  cases h : f.steps[(posOf (·.name) f.steps n).toNat]? with
  | none => simp
  | some s => exact (hf.2 s (List.mem_of_getElem? h)).2.1
theorem ch_small {f g : Flow} {B : Nat} (hg : smallF g B) : ∀ c ∈ (chOf f g).1, c.step.after.length ≤ B := by
  unfold chOf
  cases flowOk f && (flowOk g && bothF f g) with
  | false => intro c hc; cases hc
  | true =>
    intro c hc
    simp only [cond_true, List.mem_append] at hc
    rcases hc with (hc | hc) | hc
    · unfold chFree at hc
      obtain ⟨s, _, rfl⟩ := List.mem_map.1 hc
      simp
    · unfold chGone at hc
      obtain ⟨s, _, rfl⟩ := List.mem_map.1 hc
      simp
    · unfold chMade at hc
      obtain ⟨n, _, hc⟩ := List.mem_flatMap.1 hc
      have hs := stepOf_small hg n
      unfold madeOf at hc
      cases hin : hasB (f.steps.map (·.name)) n with
      | false =>
        rw [hin] at hc
        simp only [Bool.not_false, cond_true, List.mem_singleton] at hc
        subst hc
        exact hs
      | true =>
        rw [hin] at hc
        simp only [Bool.not_true, cond_false, List.mem_append] at hc
        rcases hc with hc | hc
        · cases hx : ltb 0 (((stepOf g.steps n).after.length : Nat) : Int) && !decide ((stepOf g.steps n).after = (stepOf f.steps n).after) with
          | false => rw [hx] at hc; simp at hc
          | true =>
            rw [hx] at hc
            simp only [cond_true, List.mem_singleton] at hc
            subst hc
            exact hs
        · cases hx : (stepOf g.steps n).undo != (stepOf f.steps n).undo with
          | false => rw [hx] at hc; simp at hc
          | true =>
            rw [hx] at hc
            simp only [cond_true, List.mem_singleton] at hc
            subst hc
            simp
theorem ch_len {f g : Flow} {B : Nat} (hf : smallF f B) (hg : smallF g B) : (chOf f g).1.length ≤ 4 * B := by
  have h0 := hf.1; have h1 := hg.1
  unfold chOf
  cases hok : flowOk f with
  | false => simp
  | true =>
    cases hok2 : flowOk g with
    | false => simp
    | true =>
      cases bothF f g with
      | false => simp
      | true =>
        have lo := ord_le hok; have lo2 := ord_le hok2
        have l1 : (chFree f g).length ≤ 1 * f.steps.length := by rw [chFree_eq]; exact flat_len fun s _ => free_len g s
        have l2 : (chGone f g).length ≤ 1 * f.steps.length := by rw [chGone_eq]; have := flat_len (l := (ordN f.steps f.steps.length []).reverse) (fun n _ => gone_len g n); simp only [List.length_reverse] at *; omega
        have l3 : (chMade f g).length ≤ 2 * g.steps.length := by have := flat_len (l := ordN g.steps g.steps.length []) (fun n _ => made_len f g n); unfold chMade; omega
        simp only [Bool.true_and, cond_true, List.length_append]
        omega

theorem ch_true {f g : Flow} (h : (chOf f g).2 = true) : flowOk f = true ∧ flowOk g = true ∧ (chOf f g).1 = chFree f g ++ chGone f g ++ chMade f g := by
  unfold chOf at h ⊢
  cases hok : flowOk f with
  | false => rw [hok] at h; cases h
  | true =>
    cases hok2 : flowOk g with
    | false => rw [hok, hok2] at h; cases h
    | true =>
      cases hb : bothF f g with
      | false => rw [hok, hok2, hb] at h; cases h
      | true => exact ⟨rfl, rfl, rfl⟩

end Go.Proofs.Ythmifmpllgofkaa
