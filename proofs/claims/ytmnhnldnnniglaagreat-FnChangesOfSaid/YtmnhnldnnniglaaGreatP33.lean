/- The law: flows with the same steps need no changes. -/
import Derived.Test.YtmnhnldnnniglaaGreatP32
set_option linter.all false
namespace Go.Proofs.YtmnhnldnnniglaaGreat

theorem stepOf_small {f : Flow} {B : Nat} (hf : smallF f B) (n : Str) : (stepOf f.steps n).after.length ≤ B := by
  unfold stepOf
  cases h : f.steps[(posOf (·.name) f.steps n).toNat]? with
  | none => simp
  | some s => exact (hf.2 s (List.mem_of_getElem? h)).2.1
theorem ch_small {f g : Flow} {B : Nat} (hg : smallF g B) : ∀ c ∈ (chOf f g).1, c.step.after.length ≤ B := by
  unfold chOf
  cases flowOk f && (flowOk g && bothF f g) with
  | false => intro c hc; cases hc
  | true =>
    intro c hc
    simp only [cond_true, List.mem_append] at hc
    rcases hc with (hc | hc) | hc
    · unfold chFree at hc
      obtain ⟨s, _, rfl⟩ := List.mem_map.1 hc
      simp
    · unfold chGone at hc
      obtain ⟨s, _, rfl⟩ := List.mem_map.1 hc
      simp
    · unfold chMade at hc
      obtain ⟨n, _, hc⟩ := List.mem_flatMap.1 hc
      have hs := stepOf_small hg n
      unfold madeOf at hc
      cases hin : hasB (f.steps.map (·.name)) n with
      | false =>
        rw [hin] at hc
        simp only [Bool.not_false, cond_true, List.mem_singleton] at hc
        subst hc
        exact hs
      | true =>
        rw [hin] at hc
        simp only [Bool.not_true, cond_false, List.mem_append] at hc
        rcases hc with hc | hc
        · cases hx : ltb 0 (((stepOf g.steps n).after.length : Nat) : Int) && !decide ((stepOf g.steps n).after = (stepOf f.steps n).after) with
          | false => rw [hx] at hc; simp at hc
          | true =>
            rw [hx] at hc
            simp only [cond_true, List.mem_singleton] at hc
            subst hc
            exact hs
        · cases hx : (stepOf g.steps n).undo != (stepOf f.steps n).undo with
          | false => rw [hx] at hc; simp at hc
          | true =>
            rw [hx] at hc
            simp only [cond_true, List.mem_singleton] at hc
            subst hc
            simp
theorem ch_len {f g : Flow} {B : Nat} (hf : smallF f B) (hg : smallF g B) : (chOf f g).1.length ≤ 4 * B := by
  have h0 := hf.1; have h1 := hg.1
  unfold chOf
  cases hok : flowOk f with
  | false => simp
  | true =>
    cases hok2 : flowOk g with
    | false => simp
    | true =>
      cases bothF f g with
      | false => simp
      | true =>
        have lo := ord_le hok; have lo2 := ord_le hok2
        have l1 : (chFree f g).length ≤ 1 * f.steps.length := by rw [chFree_eq]; exact flat_len fun s _ => free_len g s
        have l2 : (chGone f g).length ≤ 1 * f.steps.length := by rw [chGone_eq]; have := flat_len (l := (ordN f.steps f.steps.length []).reverse) (fun n _ => gone_len g n); simp only [List.length_reverse] at *; omega
        have l3 : (chMade f g).length ≤ 2 * g.steps.length := by have := flat_len (l := ordN g.steps g.steps.length []) (fun n _ => made_len f g n); unfold chMade; omega
        simp only [Bool.true_and, cond_true, List.length_append]
        omega

theorem ch_true {f g : Flow} (h : (chOf f g).2 = true) : flowOk f = true ∧ flowOk g = true ∧ (chOf f g).1 = chFree f g ++ chGone f g ++ chMade f g := by
  unfold chOf at h ⊢
  cases hok : flowOk f with
  | false => rw [hok] at h; cases h
  | true =>
    cases hok2 : flowOk g with
    | false => rw [hok, hok2] at h; cases h
    | true =>
      cases hb : bothF f g with
      | false => rw [hok, hok2, hb] at h; cases h
      | true => exact ⟨rfl, rfl, rfl⟩

theorem e_sameChanges_self {N B : Nat} {l : List Change} (hl : l.length < N) (hs : ∀ c ∈ l, c.step.after.length ≤ B) (hN : B < N) : m_laws_sameChanges N l l = some true := by
  unfold m_laws_sameChanges
  rw [eqb_true.2 rfl, Bool.not_true, cond_false, all_list (fun _ _ => true) false (fun n k => m_laws_sameChanges_L8 N l l n k) l (fun k => k) N hl ?_ ?_, allIdx_all, List.all_eq_true.2 (fun _ _ => rfl)]
  · rfl
  · rintro n k rfl
    simp only [m_laws_sameChanges_L8]
    rw [ltb_false.2 (by omega)]; rfl
  · intro n k h
    simp only [m_laws_sameChanges_L8]
    have := hs _ (List.getElem_mem h)
    rw [ltb_true.2 (by omega), cond_true, List.getElem?_eq_getElem h, Option.bind_some, Option.bind_some]
    unfold m_laws_sameChange
    rw [eqb_true.2 rfl, cond_true, e_sameStep (by omega), (stepEqB_true _ _).2 rfl]; rfl

theorem e_DrawChangesOf {N : Nat} {code : List UInt8} (hN : 100 < N) : ∃ f g, m_spec_DrawChangesOf N code = some (f, g) ∧ smallF f 8 ∧ smallF g 8 := by
  unfold m_spec_DrawChangesOf
  obtain ⟨f, p, h1, h2, h3⟩ := e_l91Flow (N := N) (cd := code.take 2000) (p := 0) (by omega) (by omega)
  obtain ⟨g, q, g1, g2, g3⟩ := e_l92Other (N := N) (cd := code.take 2000) (p := p) h3 hN (by omega)
  rw [h1, Option.bind_some]
  simp only
  rw [g1]
  exact ⟨f, g, rfl, h3, g3⟩

end Go.Proofs.YtmnhnldnnniglaaGreat
