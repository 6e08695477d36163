/- The law: what is found has the version. -/
import Derived.Test.YtddifmlipmmlkaaP7
import Derived.Test.YtddifmlipmmlkaaP6
import Derived.Test.YtddifmlipmmlkaaWB0
set_option linter.all false
namespace Go.Proofs.Ytddifmlipmmlkaa

theorem e_l92Version {N : Nat} {cd : List UInt8} {p : Nat} (hN : 10 < N) (hp : p + 3000 ≤ 1000000000) : ∃ l v p', m_spec_l92Version N cd p = some ((l, v), p') ∧ p' ≤ p + 3000 ∧ smallR l 8 := by
  unfold m_spec_l92Version
  obtain ⟨l, q, h1, h2, h3, h4⟩ := e_l92Registry (N := N) (cd := cd) (p := p) hN (by omega)
  have hs : smallR l 8 := ⟨by omega, h4⟩
  rw [h1, Option.bind_some]
  simp only
  by_cases hl : 0 < l.length
  · rw [ltb_true.2 (by omega), cond_true, pick_two (by omega), Option.bind_some]
    simp only
    cases ltb 0 ((pickv cd q 5 : Nat) : Int) with
    | true =>
      simp only [cond_true]
      rw [pick_two (by omega)]
      have hv := pickv_lt (cd := cd) (p := q + 1) (m := ((l.length : Nat) : Int)) (by omega)
      simp only
      rw [geti_nat, List.getElem?_eq_getElem (by omega)]
      exact ⟨l, _, _, rfl, by omega, hs⟩
    | false =>
      simp only [cond_false]
      rw [pick_two (by omega)]
      exact ⟨l, _, _, rfl, by omega, hs⟩
  · rw [ltb_false.2 (by omega), cond_false, Option.bind_some]
    simp only [cond_false]
    rw [pick_two (by omega)]
    exact ⟨l, _, _, rfl, by omega, hs⟩

theorem e_DrawRegistryFind {N : Nat} {code : List UInt8} (hN : 10 < N) : ∃ l v, m_spec_DrawRegistryFind N code = some (l, v) ∧ smallR l 8 := by
  unfold m_spec_DrawRegistryFind
  obtain ⟨l, v, p, h1, h2, h3⟩ := e_l92Version (N := N) (cd := code.take 2000) (p := 0) hN (by omega)
  rw [h1]
  exact ⟨l, v, rfl, h3⟩

/-- The law. -/
theorem p_FnRegFind (u0 : List UInt8) : ∃ N, m_laws_FnRegFind N u0 = some true := by
  refine ⟨100, ?_⟩
  unfold m_laws_FnRegFind
  by_cases c0 : ltb 1048576 ((u0.length : Nat) : Int) = true
  · rw [c0, cond_true]
  rw [Bool.not_eq_true] at c0
  rw [c0, cond_false]
  obtain ⟨l, v, h1, hs⟩ := e_DrawRegistryFind (N := 100) (code := u0) (by omega)
  rw [h1, Option.bind_some]
  simp only
  rw [e_impl_RegistryFind hs (by omega) (by omega), Option.bind_some, e_spec_RegistryFind hs (by omega) (by omega), Option.bind_some]
  have hz : smallF ⟨0, []⟩ 8 := ⟨by simp, by simp⟩
  have self : ∀ f : Flow, smallF f 8 → m_laws_sameFlow 100 f f = some true := fun f hf => by rw [e_sameFlow hf (by omega), flowEq_true.2 rfl]
  unfold regFind
  cases hr : regOk l with
  | false => simp only [cond_false, bne_self_eq_false, Bool.not_false, cond_true, beq_self_eq_true]; rw [self _ hz]; rfl
  | true =>
    simp only [cond_true]
    rcases verAt_cases l v with h | ⟨i, hi, h, hv⟩
    · rw [h, ltb_true.2 (by omega)]; simp only [cond_true, bne_self_eq_false, cond_false, Bool.not_false, beq_self_eq_true]; rw [self _ hz]; rfl
    · rw [h, ltb_false.2 (by omega)]
      have hf := hs.2 _ (List.getElem_mem hi)
      simp only [Int.toNat_natCast, cond_false, List.getElem?_eq_getElem hi, bne_self_eq_false, Bool.not_true]
      rw [self _ hf]
      simp only [Option.bind_some, Bool.not_true, cond_false]
      have k := seek_list (fun _ f => flowEq f l[i]) (fun f : Flow => true) (fun n k => m_laws_FnRegFind_L16 100 (l, v) (l[i], true) n k) l (fun k => k) 100 (by have := hs.1; omega) ?_ ?_
      · -- the place i is one
        rcases Classical.em (∃ j, ∃ hj : j < l.length, flowEq l[j] l[i] = true ∧ ∀ j' (h' : j' < j), flowEq (l[j']'(by omega)) l[i] = false) with ⟨j, hj, e1, e2⟩ | hno
        · rw [k.1 j hj e1 e2]; rfl
        · exfalso
          have none : ∀ j (hj : j < l.length), flowEq l[j] l[i] = false := by
            intro j
            induction j using Nat.strongRecOn with
            | _ j ih =>
              intro hj
              rw [← Bool.not_eq_true]
              intro e
              exact hno ⟨j, hj, e, fun j' h' => ih j' h' (by omega)⟩
          have := none i hi
          rw [flowEq_true.2 rfl] at this
          cases this
      · rintro n k rfl
        simp only [m_laws_FnRegFind_L16]
        rw [ltb_false.2 (by omega)]; rfl
      · intro n k h _
        simp only [m_laws_FnRegFind_L16]
        rw [ltb_true.2 (by omega), cond_true, List.getElem?_eq_getElem h, Option.bind_some, e_sameFlow (hs.2 _ (List.getElem_mem h)) (by omega), Option.bind_some, eqb_true.2 hv]
end Go.Proofs.Ytddifmlipmmlkaa
