/- Drawn runs are small. -/
import Derived.Test.YtmnhnldnnniglaaGreatP17
set_option linter.all false
namespace Go.Proofs.YtmnhnldnnniglaaGreat

theorem e_spec_FlowReady {N B : Nat} {f : Flow} {d : List Str} (hf : smallF f B) (hd : d.length ≤ B) (hB : B ≤ 4000000000 - 1) (hN : B < N) (hok : flowOk f = true) : m_spec_FlowReady N f d = some ((f.steps.filter (free d)).map (·.name)) := by
  have hl := hf.1
  unfold m_spec_FlowReady
  rw [pick_list (free d) (fun s => s.name) (fun n s k => m_spec_FlowReady_L5 N f d n s k) f.steps (fun k s => (s, k)) N (by omega) ?_ ?_, Option.bind_some]
  · rfl
  · rintro n s k rfl
    simp only [m_spec_FlowReady_L5]
    rw [ltb_false.2 (by omega)]; rfl
  · intro n s k h hs
    simp only [m_spec_FlowReady_L5]
    have := (hf.2 _ (List.getElem_mem h)).2.1
    rw [ltb_true.2 (by omega), cond_true, e_spec_FlowValid hf hB hN, Option.bind_some, hok, cond_true, List.getElem?_eq_getElem h, Option.bind_some, e_l1At (by omega), Option.bind_some, hasB_neg, e_l1Have (by omega) (by omega), Option.bind_some, appd_ok (by simp; omega)]
    unfold free
    cases hasB d f.steps[k].name <;> cases haveB d f.steps[k].after <;> rfl

theorem e_RunDo {N B : Nat} {f : Flow} {r : Run} {y : Str} (hf : smallF f B) (hd : r.done.length ≤ B) (hB : B ≤ 1999999999) (hN : B < N) : ∃ x, m_spec_RunDo N f r y = some x ∧ (x.1.done = [] ∨ x.1.done = r.done ++ [y]) := by
  have hl := hf.1
  have can : ∃ b, m_spec_l3Can N f r y = some b := by
    unfold m_spec_l3Can
    rw [e_l2At (by omega), Option.bind_some, e_spec_RunValid hf hd (by omega) hN, Option.bind_some]
    cases runOk f r with
    | false => exact ⟨_, rfl⟩
    | true =>
      cases eqb r.state 0 with
      | false => exact ⟨_, rfl⟩
      | true =>
        simp only [cond_true]
        rcases posOf_cases (fun s : Step => s.name) f.steps y with ⟨h1, _⟩ | ⟨i, hi, h1, _⟩
        · rw [h1, leb_false.2 (by omega)]; exact ⟨_, rfl⟩
        · have := (hf.2 _ (List.getElem_mem hi)).2.1
          rw [h1, leb_true.2 (by omega), cond_true, e_l1At (by omega), Option.bind_some, geti_nat, List.getElem?_eq_getElem hi, Option.bind_some, e_l1Have (by omega) (by omega)]
          cases ltb (posOf id r.done y) 0 <;> exact ⟨_, rfl⟩
  obtain ⟨b, hb⟩ := can
  unfold m_spec_RunDo
  rw [hb, Option.bind_some]
  cases b with
  | false => exact ⟨_, rfl, .inl rfl⟩
  | true =>
    simp only [Bool.not_true, cond_false]
    rw [appd_ok (by simp; omega), Option.bind_some, appd_ok (by simp; omega), Option.bind_some]
    cases eqb ((((([] : List Str) ++ r.done) ++ ([y] : List Str)).length : Nat) : Int) ((f.steps.length : Nat) : Int) <;> exact ⟨_, rfl, .inr rfl⟩

theorem d_Run {N : Nat} {cd : List UInt8} {f : Flow} {x : Int × Nat} (hf : smallF f 8) (hok : flowOk f = true) (hN : 100 < N) (hx : x.1 ≤ 9) : ∀ (m n p k : Nat) (st : Int) (d : List Str), 9 - k = m → k ≤ 9 → m < n → p + m ≤ 1000000000 → d.length ≤ k → (∀ y ∈ d, hasB (f.steps.map (·.name)) y = true) →
    ∃ p' st' d' k', m_spec_l91Run_L10 N cd f x n p st d ((k : Nat) : Int) = some (.brk (p', st', d', k')) ∧ p' ≤ p + m ∧ d'.length ≤ 9 ∧ ∀ y ∈ d', hasB (f.steps.map (·.name)) y = true
  | 0, n, p, k, st, d, hm, hk, hn, hp, hd, hs => by
    obtain ⟨n, rfl⟩ : ∃ n', n = n' + 1 := ⟨n - 1, by omega⟩
    refine ⟨p, st, d, k, ?_, by omega, by omega, hs⟩
    simp only [m_spec_l91Run_L10]
    rw [ltb_false.2 (by omega)]; rfl
  | m + 1, n, p, k, st, d, hm, hk, hn, hp, hd, hs => by
    obtain ⟨n, rfl⟩ : ∃ n', n = n' + 1 := ⟨n - 1, by omega⟩
    simp only [m_spec_l91Run_L10]
    cases ltb ((k : Nat) : Int) x.1 with
    | false => exact ⟨p, st, d, k, rfl, by omega, by omega, hs⟩
    | true =>
      have hl := hf.1
      have hf2 : smallF f 16 := ⟨by omega, fun s hs => ⟨by have := (hf.2 s hs).1; omega, by have := (hf.2 s hs).2.1; omega, fun z hz => by have := (hf.2 s hs).2.2 z hz; omega⟩⟩
      simp only [cond_true]
      rw [e_spec_FlowReady hf2 (by omega) (by omega) (by omega) hok, Option.bind_some, w64_id (by omega), show ((k : Nat) : Int) + 1 = ((k + 1 : Nat) : Int) by omega]
      have more : ∃ p' st' d' k', m_spec_l91Run_L10 N cd f x n p st d ((k + 1 : Nat) : Int) = some (.brk (p', st', d', k')) ∧ p' ≤ p + (m + 1) ∧ d'.length ≤ 9 ∧ ∀ y ∈ d', hasB (f.steps.map (·.name)) y = true := by
        obtain ⟨p', st', d', k', g1, g2, g3⟩ := d_Run (N := N) (cd := cd) hf hok hN hx m n p (k + 1) st d (by omega) (by omega) (by omega) (by omega) (by omega) hs
        exact ⟨p', st', d', k', g1, by omega, g3⟩
      by_cases h0 : 0 < ((f.steps.filter (free d)).map (·.name)).length
      · rw [ltb_true.2 (by omega)]
        simp only [cond_true, Option.bind_some]
        cases eqb st 0 with
        | false => simp only [cond_false]; exact more
        | true =>
          simp only [cond_true]
          rw [pick_two (by omega)]
          have hv := pickv_lt (cd := cd) (p := p) (m := ((((f.steps.filter (free d)).map (·.name)).length : Nat) : Int)) (by omega)
          have hv2 : pickv cd p ((((f.steps.filter (free d)).map (·.name)).length : Nat) : Int) < ((f.steps.filter (free d)).map (·.name)).length := by omega
          simp only
          rw [geti_nat, List.getElem?_eq_getElem hv2, Option.bind_some]
          have hy : hasB (f.steps.map (·.name)) (((f.steps.filter (free d)).map (·.name))[pickv cd p ((((f.steps.filter (free d)).map (·.name)).length : Nat) : Int)]) = true := by
            obtain ⟨t, ht, e⟩ := List.mem_map.1 (List.getElem_mem hv2)
            rw [List.mem_filter] at ht
            exact hasB_true.2 (List.mem_map.2 ⟨t, ht.1, e⟩)
          obtain ⟨r, g1, g2⟩ := e_RunDo (N := N) (f := f) (r := ⟨st, d⟩) (y := ((f.steps.filter (free d)).map (·.name))[pickv cd p ((((f.steps.filter (free d)).map (·.name)).length : Nat) : Int)]) hf2 (by simp only; omega) (by omega) (by omega)
          rw [g1, Option.bind_some]
          obtain ⟨p', st', d', k', j1, j2, j3⟩ := d_Run (N := N) (cd := cd) hf hok hN hx m n (p + 1) (k + 1) r.1.state r.1.done (by omega) (by omega) (by omega) (by omega) (by
            rcases g2 with g | g <;> rw [g]
            · simp
            · simp only [List.length_append, List.length_singleton]; omega) (fun z hz => by
            rcases g2 with g | g <;> rw [g] at hz
            · simp at hz
            · rcases List.mem_append.1 hz with h | h
              · exact hs z h
              · rw [List.mem_singleton.1 h]; exact hy)
          exact ⟨p', st', d', k', j1, by omega, j3⟩
      · rw [ltb_false.2 (by omega)]
        simp only [cond_false, Option.bind_some]
        exact more

theorem e_RunNew_spec {N B : Nat} {f : Flow} (hf : smallF f B) (hB : B ≤ 4000000000 - 1) (hN : B < N) : m_spec_RunNew N f = some (⟨0, []⟩, flowOk f) := by
  unfold m_spec_RunNew
  rw [e_spec_FlowValid hf hB hN, Option.bind_some]
  cases flowOk f <;> rfl

theorem e_l91Run {N : Nat} {cd : List UInt8} {p : Nat} {f : Flow} (hf : smallF f 8) (hN : 100 < N) (hp : p + 20 ≤ 1000000000) : ∃ r p', m_spec_l91Run N cd p f = some (r, p') ∧ p' ≤ p + 20 ∧ shortL r.done 16 := by
  have hl := hf.1
  unfold m_spec_l91Run
  rw [e_RunNew_spec hf (by omega) (by omega), Option.bind_some]
  cases hok : flowOk f with
  | false => exact ⟨_, _, rfl, by omega, by simp only; exact ⟨by simp, by simp⟩⟩
  | true =>
    simp only [Bool.not_true, cond_false]
    rw [lsz_ok (by omega), Option.bind_some, pick_two (by omega)]
    have hv := pickv_lt (cd := cd) (p := p) (m := ((f.steps.length : Nat) : Int) + 2) (by omega)
    obtain ⟨q, st, d, k, h1, h2, h3, h4⟩ := d_Run (N := N) (cd := cd) (x := (((pickv cd p (((f.steps.length : Nat) : Int) + 2) : Nat) : Int), p + 1)) hf hok hN (by simp only; omega) 9 N (p + 1) 0 0 [] rfl (by omega) (by omega) (by omega) (by simp) (by simp)
    simp only at h1 ⊢
    rw [show ((0 : Nat) : Int) = 0 from rfl] at h1
    rw [h1, Option.bind_some]
    simp only [Ex.go]
    have hb := e_l3Back (N := N) (f := f) (done := d) (by omega) (by omega) (by omega) h4
    have hsd : ∀ y ∈ d, y.size ≤ 16 := fun y hy => by
      obtain ⟨t, ht, rfl⟩ := List.mem_map.1 (hasB_true.1 (h4 y hy))
      have := (hf.2 t ht).1
      omega
    have tail : ∀ (q : Nat) (st : Int), q ≤ p + 12 → ∃ r p', ((m_spec_l6Rd_pick N cd q 40).bind fun x70 => (bif eqb x70.1 0 then (m_spec_l6Rd_pick N cd x70.2 6).bind fun x74 => some ((Run.mk (w64 (x74.1 - 1)) d), x74.2)
        else (bif eqb x70.1 1 then (appd d ([(⟨#[97]⟩ : Str)] : List Str)).bind fun l82 => some ((Run.mk st (d ++ ([(⟨#[97]⟩ : Str)] : List Str))), x70.2)
        else some ((Run.mk st d), x70.2)))) = some (r, p') ∧ p' ≤ p + 20 ∧ shortL r.done 16 := by
      intro q st hq
      rw [pick_two (by omega)]
      simp only
      cases eqb ((pickv cd q 40 : Nat) : Int) 0 with
      | true =>
        simp only [cond_true]
        rw [pick_two (by omega)]
        exact ⟨_, _, rfl, by omega, by simp only; exact ⟨by omega, hsd⟩⟩
      | false =>
        simp only [cond_false]
        cases eqb ((pickv cd q 40 : Nat) : Int) 1 with
        | true =>
          simp only [cond_true]
          rw [appd_ok (by simp; omega), Option.bind_some]
          exact ⟨_, _, rfl, by omega, by simp; omega, fun y hy => by
            rcases List.mem_append.1 hy with h | h
            · exact hsd y h
            · rw [List.mem_singleton.1 h]; decide⟩
        | false => exact ⟨_, _, rfl, by omega, by simp only; exact ⟨by omega, hsd⟩⟩
    cases eqb st 0 with
    | false => simp only [cond_false, Option.bind_some]; exact tail q st (by omega)
    | true =>
      simp only [cond_true]
      rw [pick_two (by omega)]
      simp only
      cases eqb ((pickv cd q 3 : Nat) : Int) 0 with
      | false => simp only [cond_false, Option.bind_some]; exact tail (q + 1) st (by omega)
      | true =>
        simp only [cond_true]
        rw [hb]
        simp only [Option.bind_some]
        exact tail (q + 1) _ (by omega)

theorem e_l91Both {N : Nat} {cd : List UInt8} {p : Nat} (hN : 100 < N) (hp : p + 1000 ≤ 1000000000) : ∃ f r p', m_spec_l91Both N cd p = some ((f, r), p') ∧ p' ≤ p + 400 ∧ smallF f 8 ∧ shortL r.done 16 := by
  unfold m_spec_l91Both
  obtain ⟨f, q, h1, h2, h3⟩ := e_l91Flow (N := N) (cd := cd) (p := p) (by omega) (by omega)
  obtain ⟨r, s, g1, g2, g3⟩ := e_l91Run (N := N) (cd := cd) (p := q) h3 hN (by omega)
  rw [h1, Option.bind_some]
  simp only
  rw [g1]
  exact ⟨f, r, s, rfl, by omega, h3, g3⟩
end Go.Proofs.YtmnhnldnnniglaaGreat
