/- The laws: each run moves or stays; all runs may move to their own flow. -/
import Derived.Test.YthlhkinkcbamgaaP26
import Derived.Test.YthlhkinkcbamgaaP21
set_option linter.all false
namespace Go.Proofs.Ythlhkinkcbamgaa

theorem e_sameInts_self {N : Nat} {l : List Int} (hN : l.length < N) : m_laws_sameInts N l l = some true := by
  unfold m_laws_sameInts
  rw [eqb_true.2 rfl, Bool.not_true, cond_false, all_list (fun _ _ => true) false (fun n k => m_laws_sameInts_L8 N l l n k) l (fun k => k) N hN ?_ ?_, allIdx_all, List.all_eq_true.2 (fun _ _ => rfl)]
  · rfl
  · rintro n k rfl
    simp only [m_laws_sameInts_L8]
    rw [ltb_false.2 (by omega)]; rfl
  · intro n k h
    simp only [m_laws_sameInts_L8]
    rw [ltb_true.2 (by omega), cond_true, List.getElem?_eq_getElem h, Option.bind_some, Option.bind_some, eqb_true.2 rfl]; rfl
theorem e_sameRuns_self {N B : Nat} {l : List Run} (hl : smallRs l B) (hN : B < N) : m_laws_sameRuns N l l = some true := by
  have h0 := hl.1
  unfold m_laws_sameRuns
  rw [eqb_true.2 rfl, Bool.not_true, cond_false, all_list (fun _ _ => true) false (fun n k => m_laws_sameRuns_L8 N l l n k) l (fun k => k) N (by omega) ?_ ?_, allIdx_all, List.all_eq_true.2 (fun _ _ => rfl)]
  · rfl
  · rintro n k rfl
    simp only [m_laws_sameRuns_L8]
    rw [ltb_false.2 (by omega)]; rfl
  · intro n k h
    simp only [m_laws_sameRuns_L8]
    rw [ltb_true.2 (by omega), cond_true, List.getElem?_eq_getElem h, Option.bind_some, Option.bind_some, sameRun_it (by have := hl.2 _ (List.getElem_mem h); omega)]; rfl

theorem d_Runs {N : Nat} {cd : List UInt8} {f : Flow} {x : Nat × Int} (hf : smallF f 8) (hN : 100 < N) (hx : x.2 ≤ 9) : ∀ (m n p k : Nat) (l : List Run), 9 - k = m → k ≤ 9 → m < n → p + 30 * m ≤ 100000 → l.length ≤ k → (∀ r ∈ l, r.done.length ≤ 16) →
    ∃ p' l' k', m_spec_l92Runs_L8 N cd f x n p l ((k : Nat) : Int) = some (.brk (p', l', k')) ∧ p' ≤ p + 30 * m ∧ l'.length ≤ 9 ∧ ∀ r ∈ l', r.done.length ≤ 16
  | 0, n, p, k, l, hm, hk, hn, hp, hl, hs => by
    obtain ⟨n, rfl⟩ : ∃ n', n = n' + 1 := ⟨n - 1, by omega⟩
    refine ⟨p, l, k, ?_, by omega, by omega, hs⟩
    simp only [m_spec_l92Runs_L8]
    rw [ltb_false.2 (by omega)]; rfl
  | m + 1, n, p, k, l, hm, hk, hn, hp, hl, hs => by
    obtain ⟨n, rfl⟩ : ∃ n', n = n' + 1 := ⟨n - 1, by omega⟩
    simp only [m_spec_l92Runs_L8]
    cases ltb ((k : Nat) : Int) x.2 with
    | false => exact ⟨p, l, k, rfl, by omega, by omega, hs⟩
    | true =>
      obtain ⟨r, q, h1, h2, h3⟩ := e_l91Run (N := N) (cd := cd) (p := p) hf hN (by omega)
      have hb := e_spec_RunValid (N := N) (r := r) (small_up2 hf (show 8 ≤ 16 by omega)) h3.1 (by omega) (by omega)
      have hs2 : ∀ y ∈ l ++ [r], y.done.length ≤ 16 := fun y hy => by
        rcases List.mem_append.1 hy with h | h
        · exact hs y h
        · rw [List.mem_singleton.1 h]; exact h3.1
      simp only [cond_true]
      rw [h1, Option.bind_some]
      simp only
      rw [hb, Option.bind_some, appd_ok (by simp; omega), w64_id (by omega), show ((k : Nat) : Int) + 1 = ((k + 1 : Nat) : Int) by omega, pick_two (by omega)]
      simp only [Option.bind_some]
      cases runOk f r with
      | true =>
        obtain ⟨p', l', k', g1, g2, g3⟩ := d_Runs (N := N) (cd := cd) hf hN hx m n q (k + 1) (l ++ [r]) (by omega) (by omega) (by omega) (by omega) (by simp; omega) hs2
        exact ⟨p', l', k', g1, by omega, g3⟩
      | false =>
        cases eqb ((pickv cd q 10 : Nat) : Int) 0 with
        | true =>
          obtain ⟨p', l', k', g1, g2, g3⟩ := d_Runs (N := N) (cd := cd) hf hN hx m n (q + 1) (k + 1) (l ++ [r]) (by omega) (by omega) (by omega) (by omega) (by simp; omega) hs2
          exact ⟨p', l', k', g1, by omega, g3⟩
        | false =>
          obtain ⟨p', l', k', g1, g2, g3⟩ := d_Runs (N := N) (cd := cd) hf hN hx m n (q + 1) (k + 1) l (by omega) (by omega) (by omega) (by omega) (by omega) hs
          exact ⟨p', l', k', g1, by omega, g3⟩

theorem e_l92Runs {N : Nat} {cd : List UInt8} {p : Nat} {f : Flow} (hf : smallF f 8) (hN : 100 < N) (hp : p ≤ 10000) : ∃ l p', m_spec_l92Runs N cd p f = some (l, p') ∧ p' ≤ p + 400 ∧ smallRs l 16 := by
  unfold m_spec_l92Runs
  have tail : ∀ (q : Nat) (v : Int), q ≤ p + 10 → v ≤ 9 → ∃ l p', ((m_spec_l92Runs_L8 N cd f (q, v) N q ([] : List Run) 0).bind fun e8 => e8.go (fun r => r) fun b8 => some (b8.2.1, b8.1)) = some (l, p') ∧ p' ≤ p + 400 ∧ smallRs l 16 := by
    intro q v hq hv
    obtain ⟨p', l', k', g1, g2, g3, g4⟩ := d_Runs (N := N) (cd := cd) (x := (q, v)) hf hN hv 9 N q 0 [] rfl (by omega) (by omega) (by omega) (by simp) (by simp)
    rw [show ((0 : Nat) : Int) = 0 from rfl] at g1
    rw [g1]
    exact ⟨l', p', rfl, by omega, by omega, g4⟩
  rw [pick_two (by omega)]
  simp only
  rw [pick_two (by omega)]
  simp only
  have hv := pickv_lt (cd := cd) (p := p) (m := 4) (by omega)
  cases eqb ((pickv cd (p + 1) 24 : Nat) : Int) 0 with
  | true =>
    simp only [cond_true]
    rw [pick_two (by omega)]
    have hv2 := pickv_lt (cd := cd) (p := p + 1 + 1) (m := 2) (by omega)
    simp only [Option.bind_some]
    exact tail _ _ (by omega) (by rw [w64_id (by omega)]; omega)
  | false =>
    simp only [cond_false, Option.bind_some]
    exact tail _ _ (by omega) (by omega)

theorem e_DrawMoveAll {N : Nat} {code : List UInt8} (hN : 100 < N) : ∃ f g l, m_spec_DrawMoveAll N code = some (f, g, l) ∧ smallF f 16 ∧ smallF g 16 ∧ smallRs l 16 := by
  unfold m_spec_DrawMoveAll
  obtain ⟨f, p, h1, h2, h3⟩ := e_l91Flow (N := N) (cd := code.take 2000) (p := 0) (by omega) (by omega)
  obtain ⟨l, q, g1, g2, g3⟩ := e_l92Runs (N := N) (cd := code.take 2000) (p := p) h3 hN (by omega)
  obtain ⟨g, s, k1, k2, k3⟩ := e_l92Other (N := N) (cd := code.take 2000) (p := q) h3 hN (by omega)
  rw [h1, Option.bind_some]
  simp only
  rw [g1, Option.bind_some]
  simp only
  rw [k1]
  exact ⟨f, g, l, rfl, small_up2 h3 (by omega), small_up2 k3 (by omega), g3⟩

theorem move_begin {f g : Flow} {l : List Run} (hf : smallF f 16) (hg : smallF g 16) (hl : smallRs l 16) :
    m_impl_MoveAll 200 f g l = some (moveAll f g l) ∧ m_spec_MoveAll 200 f g l = some (moveAll f g l) ∧ m_laws_sameRuns 200 (moveAll f g l).1 (moveAll f g l).1 = some true ∧ m_laws_sameInts 200 (moveAll f g l).2.1 (moveAll f g l).2.1 = some true :=
  ⟨e_impl_MoveAll hf hg hl (by omega) (by omega), e_spec_MoveAll hf hg hl (by omega) (by omega), e_sameRuns_self (move_small hl).1 (by omega), e_sameInts_self (by have := (move_small (f := f) (g := g) hl).2; omega)⟩

/-- The law. -/
theorem p_FnMoveAllSelf (u0 : List UInt8) : ∃ N, m_laws_FnMoveAllSelf N u0 = some true := by
  refine ⟨200, ?_⟩
  unfold m_laws_FnMoveAllSelf
  refine begin0 ?_
  obtain ⟨f, g, l, h1, hf, hg, hl⟩ := e_DrawMoveAll (N := 200) (code := u0) (by omega)
  obtain ⟨fi, fs, sr, si⟩ := move_begin hf hg hl
  have f2 : m_impl_MoveAll 200 f f l = some (moveAll f f l) := e_impl_MoveAll hf hf hl (by omega) (by omega)
  have s2 : m_laws_sameRuns 200 l l = some true := e_sameRuns_self hl (by omega)
  cases hb : (moveAll f g l).2.2 with
  | false => simp only [h1, fi, fs, sr, si, hb, Option.bind_some, bne_self_eq_false, beq_self_eq_true, cond_true, cond_false, Bool.not_true, Bool.not_false]
  | true =>
    obtain ⟨a1, a2, a3, a4⟩ := move_true hb
    have e : moveAll f f l = (l, [], true) := by
      unfold moveAll
      rw [a1, a2, a3, goM_self l 0 a3]; rfl
    rw [e] at f2
    have e0 : eqb ((([] : List Int).length : Nat) : Int) 0 = true := eqb_true.2 rfl
    simp only [h1, fi, fs, sr, si, hb, f2, s2, e0, Option.bind_some, bne_self_eq_false, beq_self_eq_true, cond_true, cond_false, Bool.not_true, Bool.not_false]

/-- The law. -/
theorem p_FnMoveAll (u0 : List UInt8) : ∃ N, m_laws_FnMoveAll N u0 = some true := by
  refine ⟨200, ?_⟩
  unfold m_laws_FnMoveAll
  refine begin0 ?_
  obtain ⟨f, g, l, h1, hf, hg, hl⟩ := e_DrawMoveAll (N := 200) (code := u0) (by omega)
  obtain ⟨fi, fs, sr, si⟩ := move_begin hf hg hl
  have h0 := hl.1
  have ms := move_small (f := f) (g := g) hl
  have ms1 := ms.1.1
  have ms2 := ms.2
  cases hb : (moveAll f g l).2.2 with
  | false => simp only [h1, fi, fs, sr, si, hb, Option.bind_some, bne_self_eq_false, beq_self_eq_true, cond_true, cond_false, Bool.not_true, Bool.not_false]
  | true =>
    simp only [h1, fi, fs, sr, si, hb, Option.bind_some, bne_self_eq_false, beq_self_eq_true, cond_true, cond_false, Bool.not_true, Bool.not_false]
    obtain ⟨a1, a2, a3, a4⟩ := move_true hb
    rw [a4] at ms ms1 ms2 ⊢
    simp only at ms ms1 ms2
    have loop1 : m_laws_FnMoveAll_L17 200 (f, g, l) ((goM f g l 0).1, (goM f g l 0).2, true) 200 0 = some (.brk (goM f g l 0).1.length) := by
      rw [all_list (fun _ _ => true) false (fun n k => m_laws_FnMoveAll_L17 200 (f, g, l) ((goM f g l 0).1, (goM f g l 0).2, true) n k) (goM f g l 0).1 (fun k => k) 200 (by omega) ?_ ?_, allIdx_all, List.all_eq_true.2 (fun _ _ => rfl)]
      · rfl
      · rintro n k rfl
        simp only [m_laws_FnMoveAll_L17]
        rw [ltb_false.2 (by omega)]; rfl
      · intro n k h
        simp only [m_laws_FnMoveAll_L17]
        rw [ltb_true.2 (by omega), cond_true, List.getElem?_eq_getElem h, Option.bind_some, e_impl_RunValid hg (goM_done l 0 hl.2 _ (List.getElem_mem h)) (by omega) (by omega), Option.bind_some, goM_valid l 0 _ (List.getElem_mem h)]
        rfl
    have loop2 : m_laws_FnMoveAll_L28 200 (f, g, l) ((goM f g l 0).1, (goM f g l 0).2, true) 200 0 = some (.brk (goM f g l 0).2.length) := by
      rw [all_list (fun _ _ => true) false (fun n k => m_laws_FnMoveAll_L28 200 (f, g, l) ((goM f g l 0).1, (goM f g l 0).2, true) n k) (goM f g l 0).2 (fun k => k) 200 (by omega) ?_ ?_, allIdx_all, List.all_eq_true.2 (fun _ _ => rfl)]
      · rfl
      · rintro n k rfl
        simp only [m_laws_FnMoveAll_L28]
        rw [ltb_false.2 (by omega)]; rfl
      · intro n k h
        simp only [m_laws_FnMoveAll_L28]
        obtain ⟨i, hi, e1, e2⟩ := goM_stay l 0 _ (List.getElem_mem h)
        rw [Nat.zero_add] at e1
        rw [ltb_true.2 (by omega), cond_true, List.getElem?_eq_getElem h, Option.bind_some]
        have hfit : m_impl_FitRun 200 f g l[i] = some (fitRun f g l[i]) := e_impl_FitRun hf hg (hl.2 _ (List.getElem_mem hi)) (by omega) (by omega)
        have hget : geti l ((goM f g l 0).2[k]) = some l[i] := by rw [e1, geti_nat, List.getElem?_eq_getElem hi]
        rw [hget, Option.bind_some, hfit, Option.bind_some, e2]
        simp only [cond_false, cond_true]
        rcases Nat.eq_zero_or_pos k with h0 | h0
        · subst h0
          rw [ltb_false.2 (by omega)]; rfl
        · have hlt := List.pairwise_iff_getElem.1 (goM_asc (f := f) (g := g) l 0) (k - 1) k (by omega) h (by omega)
          rw [ltb_true.2 (by omega), cond_true, show ((k : Nat) : Int) - 1 = ((k - 1 : Nat) : Int) by omega, geti_nat, List.getElem?_eq_getElem (by omega), Option.bind_some, leb_false.2 hlt]; rfl
    rw [loop1]
    simp only [Option.bind_some, Ex.go]
    rw [loop2]
    simp only [Option.bind_some, Ex.go]
    have hsum := goM_len (f := f) (g := g) l 0
    rw [w64_id (by omega), eqb_true.2 (by omega)]
end Go.Proofs.Ythlhkinkcbamgaa
