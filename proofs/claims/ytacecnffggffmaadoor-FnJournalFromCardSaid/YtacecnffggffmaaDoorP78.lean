/- Journals: drawn journals, marks, and the six laws. -/
import Derived.Test.YtacecnffggffmaaDoorP75
import Derived.Test.YtacecnffggffmaaDoorP77
set_option linter.all false
namespace Go.Proofs.YtacecnffggffmaaDoor

/-! ## Equal events -/

theorem e_sameEvents {N : Nat} {l : List Event} (hN : l.length < N) : m_laws_sameEvents N l l = some true := by
  unfold m_laws_sameEvents
  rw [eqb_true.2 rfl, Bool.not_true, cond_false, all_list (fun _ _ => true) false (fun n k => m_laws_sameEvents_L8 N l l n k) l (fun k => k) N hN ?_ ?_, allIdx_true.2 (fun _ _ => rfl)]
  · rfl
  · rintro n k rfl
    simp only [m_laws_sameEvents_L8]
    rw [ltb_false.2 (by omega)]; rfl
  · intro n k h
    simp only [m_laws_sameEvents_L8]
    rw [ltb_true.2 (by omega), cond_true, List.getElem?_eq_getElem h, Option.bind_some, Option.bind_some, eqb_true.2 rfl, seq_self]; rfl
theorem e_eqEventS {N : Nat} {l : List Event} (hN : l.length < N) : m_laws_eqEventS N l l = some true := by
  unfold m_laws_eqEventS
  rw [eqb_true.2 rfl, Bool.not_true, cond_false, all_list (fun _ _ => true) false (fun n k => m_laws_eqEventS_L8 N l l n k) l (fun k => k) N hN ?_ ?_, allIdx_true.2 (fun _ _ => rfl)]
  · rfl
  · rintro n k rfl
    simp only [m_laws_eqEventS_L8]
    rw [ltb_false.2 (by omega)]; rfl
  · intro n k h
    simp only [m_laws_eqEventS_L8]
    rw [ltb_true.2 (by omega), cond_true, List.getElem?_eq_getElem h, Option.bind_some, Option.bind_some, e_eqEvent]; rfl

/-! ## Marks -/

def stE (N : Nat) (_ : Event) (k : Int) : Event × Int := (⟨k, mtx N (k + 1)⟩, k + 2)
theorem stE_c (N : Nat) (x : Event) (k : Int) : k ≤ (stE N x k).2 ∧ (stE N x k).2 ≤ k + (fun _ : Event => 2) x := by unfold stE; simp only; omega
theorem wsum_two {α : Type} (l : List α) : wsum (fun _ => 2) l = 2 * l.length := by
  induction l with
  | nil => rfl
  | cons x t ih => simp only [wsum, List.map_cons, List.sum_cons, List.length_cons] at ih ⊢; omega
theorem e_markEventS {N : Nat} {l : List Event} {k : Int} (hN : 100 < N) (hl : l.length < N) (h0 : 0 ≤ k) (h1 : k + 2 * l.length ≤ 4000000000000000000) : m_laws_markEventS N l k = some ((mkAll (stE N) l k).2, (mkAll (stE N) l k).1) := by
  unfold m_laws_markEventS
  rw [mark_list (stE N) (fun _ => 2) 4000000000000000000 (fun n s k i => m_laws_markEventS_L4 N l n s k i) l N hl k h0 (by rw [wsum_two]; omega) (stE_c N) ?_ ?_, Option.bind_some]
  · rfl
  · rintro n s k i rfl
    simp only [m_laws_markEventS_L4]
    rw [ltb_false.2 (by omega)]; rfl
  · intro n s k i x h hs hx _ hk hB
    simp only [m_laws_markEventS_L4]
    rw [ltb_true.2 (by omega), cond_true, hx, Option.bind_some, w64_id (n := k + 1) (by omega), e_mtx hN (by omega) (by omega), Option.bind_some, List.getElem?_set_self (by omega), Option.bind_some, List.set_set, w64_id (by omega)]
    unfold stE
    rw [show k + 1 + 1 = k + 2 by omega]
theorem e_heldEventS {N : Nat} {l : List Event} {k : Int} (hN : 100 < N) (hl : l.length < N) (h0 : 0 ≤ k) (h1 : k + 2 * l.length ≤ 4000000000000000000) : m_laws_heldEventS N (mkAll (stE N) l k).1 k = some (mkAll (stE N) l k).2 := by
  unfold m_laws_heldEventS
  have e := mkAll_len (stE N) l k
  rw [held_list (stE N) (fun _ => 2) 4000000000000000000 (fun n k2 i => m_laws_heldEventS_L5 N (mkAll (stE N) l k).1 n k2 i) l N hl k h0 (by rw [wsum_two]; omega) (stE_c N) ?_ ?_, Option.bind_some]
  · rfl
  · rintro n k2 i rfl
    simp only [m_laws_heldEventS_L5]
    rw [ltb_false.2 (by omega)]; rfl
  · intro n i x k2 h _ hx hk hB
    simp only [m_laws_heldEventS_L5]
    rw [ltb_true.2 (by omega), cond_true, hx, Option.bind_some]
    unfold stE
    simp only
    rw [eqb_true.2 rfl, Bool.not_true, cond_false, w64_id (n := k2 + 1) (by omega), e_mtx hN (by omega) (by omega), Option.bind_some, seq_self, Bool.not_true, cond_false, w64_id (by omega), show k2 + 1 + 1 = k2 + 2 by omega]

/-! ## Drawn journals -/

theorem d_List {N : Nat} {cd : List UInt8} {x : Int × Nat} (hx : x.1 ≤ 4) : ∀ (m n p k : Nat) (a : List Event), 4 - k = m → k ≤ 4 → m < n → p + 2 * m ≤ 1000000000 → a.length ≤ k → (∀ d ∈ a, d.name.size ≤ 8) →
    ∃ l p' k', m_spec_l91List_L6 N cd x n p a k = some (.brk (p', l, k')) ∧ p' ≤ p + 2 * m ∧ l.length ≤ 4 ∧ ∀ d ∈ l, d.name.size ≤ 8
  | m, n, p, k, a, hm, hk, hn, hp, ha, hb => by
    obtain ⟨n, rfl⟩ : ∃ n', n = n' + 1 := ⟨n - 1, by omega⟩
    simp only [m_spec_l91List_L6]
    by_cases hlt : ((k : Nat) : Int) < x.1
    · obtain ⟨m, rfl⟩ : ∃ m', m = m' + 1 := ⟨m - 1, by omega⟩
      rw [ltb_true.2 hlt, cond_true, pick_two (by omega)]
      simp only
      obtain ⟨y, h1, h2⟩ := e_of (N := N) (cd := cd) (p := p + 1) (l := [(⟨#[97]⟩ : Str), (⟨#[98]⟩ : Str), (⟨#[112, 97, 121]⟩ : Str)]) (B := 8) (by omega) (by simp) (by decide)
      rw [h1, Option.bind_some, appd_ok (by rw [List.length_singleton]; omega), Option.bind_some]
      obtain ⟨l, p', k', g1, g2, g3, g4⟩ := d_List hx m n (p + 1 + 1) (k + 1) (a ++ [Event.mk (w64 (1 + ((pickv cd p 3 : Nat) : Int))) y]) (by omega) (by omega) (by omega) (by omega) (by rw [List.length_append, List.length_singleton]; omega) (fun d hd => by
        rcases List.mem_append.1 hd with h | h
        · exact hb d h
        · rw [List.mem_singleton.1 h]; exact h2)
      exact ⟨l, p', k', g1, by omega, g3, g4⟩
    · rw [ltb_false.2 (by omega), cond_false]
      exact ⟨a, p, k, rfl, by omega, by omega, hb⟩
theorem e_l91List {N : Nat} (hN : 10 < N) {cd : List UInt8} {p : Nat} (hp : p ≤ 1000) : ∃ l p', m_spec_l91List N cd p = some (l, p') ∧ p' ≤ p + 9 ∧ l.length ≤ 4 ∧ ∀ d ∈ l, d.name.size ≤ 8 := by
  unfold m_spec_l91List
  rw [pick_two (by omega)]
  have hv := pickv_lt (cd := cd) (p := p) (m := 5) (by omega)
  simp only
  obtain ⟨l, p', k', h1, h2, h3, h4⟩ := d_List (N := N) (cd := cd) (x := (((pickv cd p 5 : Nat) : Int), p + 1)) (by simp only; omega) 4 N (p + 1) 0 [] rfl (by omega) (by omega) (by omega) (by simp) (by simp)
  rw [h1]
  exact ⟨l, p', rfl, by omega, h3, h4⟩
theorem d_JournalText {N : Nat} (hN : 10 < N) {code : List UInt8} : ∃ l, m_spec_DrawJournalText N code = some l ∧ l.length ≤ 4 ∧ ∀ d ∈ l, d.name.size ≤ 8 := by
  unfold m_spec_DrawJournalText
  obtain ⟨l, p', h1, h2, h3, h4⟩ := e_l91List hN (cd := code.take 2000) (p := 0) (by omega)
  rw [h1, Option.bind_some]
  simp only
  by_cases h0 : (0 : Int) < ((l.length : Nat) : Int)
  · rw [ltb_true.2 h0, cond_true, pick_two (by omega)]
    simp only
    cases eqb ((pickv (code.take 2000) p' 16 : Nat) : Int) 0 with
    | false => exact ⟨l, rfl, h3, h4⟩
    | true =>
      rw [cond_true, List.getElem?_eq_getElem (by omega), Option.bind_some]
      refine ⟨_, rfl, by rw [List.length_set]; exact h3, fun d hd => ?_⟩
      rcases List.mem_or_eq_of_mem_set hd with h | h
      · exact h4 d h
      · rw [h]
        have hm : l[0] ∈ l := List.getElem_mem (show 0 < l.length by omega)
        exact (h4 _ hm :)
  · rw [ltb_false.2 (by omega), cond_false]
    exact ⟨l, rfl, h3, h4⟩
theorem jT_size {l : List Event} : (jT l).size ≤ 50 * l.length := by
  unfold jT
  by_cases h : evsOk l = true
  · rw [if_pos h, ofB_size]; exact jB_len (evsOk_jOk.1 h)
  · rw [if_neg h]; exact Nat.zero_le _
theorem small_names {l : List Event} (h : ∀ d ∈ l, d.name.size ≤ 8) : namesS l := fun d hd => by have := h d hd; omega
theorem d_JournalFrom {N : Nat} (hN : 3000000 < N) {code : List UInt8} : ∃ s, m_spec_DrawJournalFrom N code = some s ∧ s.size ≤ 5000 := by
  unfold m_spec_DrawJournalFrom
  obtain ⟨l, p', h1, h2, h3, h4⟩ := e_l91List (N := N) (by omega) (cd := code.take 2000) (p := 0) (by omega)
  rw [h1, Option.bind_some]
  simp only
  rw [e_spec_JournalText (small_names h4) hN (by omega), Option.bind_some]
  have hsz := jT_size (l := l)
  cases seq (jT l) (⟨#[]⟩ : Str) with
  | true =>
    obtain ⟨x, g1, g2⟩ := e_of (N := N) (cd := code.take 2000) (p := p') (l := [(⟨#[]⟩ : Str), (⟨#[120]⟩ : Str), (⟨#[49, 32, 100, 105, 100, 32, 97, 32, 53, 10]⟩ : Str)]) (B := 10) (by omega) (by simp) (by decide)
    rw [cond_true, g1]
    exact ⟨x, rfl, by omega⟩
  | false =>
    obtain ⟨t, q, g1, g2⟩ := d_Changed (N := N) (cd := code.take 2000) (p := p') (s := jT l) (by omega) (by omega)
    rw [cond_false, g1]
    exact ⟨t, rfl, g2⟩

/-! ## The laws -/

theorem ok_len {l : List Event} (h : evsOk l = true) : l.length ≤ 20 := by
  unfold evsOk at h
  rw [Bool.and_eq_true, decide_eq_true_eq] at h
  exact h.2
theorem ok_names {l : List Event} (h : evsOk l = true) : namesS l := fun d hd => by
  unfold evsOk at h
  rw [Bool.and_eq_true, List.all_eq_true] at h
  have := nameOk_size (evB_true.1 (h.1 d hd)).2.2
  omega
theorem jT_ok {l : List Event} (h : evsOk l = true) : jT l = ofB (jB 0 l) := if_pos h

theorem p_FnJournal (code : List UInt8) : ∃ N, m_laws_FnJournal N code = some true := by
  refine ⟨3000001, ?_⟩
  unfold m_laws_FnJournal
  cases ltb 1048576 ((code.length : Nat) : Int) with
  | true => rfl
  | false =>
    rw [cond_false]
    obtain ⟨l, h1, h2, h3⟩ := d_JournalText (N := 3000001) (by omega) (code := code)
    have hn := small_names h3
    have hsz := jT_size (l := l)
    rw [h1, Option.bind_some, e_impl_JournalText hn (by omega) (by omega), Option.bind_some, e_spec_JournalText hn (by omega) (by omega), Option.bind_some, seq_self, Bool.not_true, cond_false, e_spec_EventsValid hn (by omega) (by omega), Option.bind_some]
    cases hv : evsOk l with
    | false => rfl
    | true =>
      have hj := jr_all (evsOk_jOk.1 hv)
      have e := jT_ok hv
      rw [Bool.not_true, cond_false, journal_impl (N := 3000001) (s := jT l) (res := (l, (jB 0 l).length, 0)) (by omega) (by omega) (by rw [e, toB_ofB]; exact hj), Option.bind_some]
      simp only
      rw [e_sameEvents (by omega), Option.bind_some, cond_true, ssz_ok (by omega), Option.bind_some, eqb_true.2 (by rw [e, ofB_size]), cond_true, eqb_true.2 rfl]

theorem p_FnJournalTorn (code : List UInt8) : ∃ N, m_laws_FnJournalTorn N code = some true := by
  refine ⟨3000001, ?_⟩
  unfold m_laws_FnJournalTorn
  cases ltb 1048576 ((code.length : Nat) : Int) with
  | true => rfl
  | false =>
    rw [cond_false]
    obtain ⟨l, h1, h2, h3⟩ := d_JournalText (N := 3000001) (by omega) (code := code)
    have hn := small_names h3
    have hsz := jT_size (l := l)
    rw [h1, Option.bind_some, e_impl_JournalText hn (by omega) (by omega), Option.bind_some, e_spec_JournalText hn (by omega) (by omega), Option.bind_some, seq_self, Bool.not_true, cond_false, e_spec_EventsValid hn (by omega) (by omega), Option.bind_some]
    cases hv : evsOk l with
    | false => rfl
    | true =>
      rw [Bool.not_true, cond_false]
      by_cases hz : l = []
      · subst hz
        rw [show eqb (((([] : List Event).length : Nat) : Int)) 0 = true from eqb_true.2 rfl]; rfl
      · have hpos : 1 ≤ l.length := by
          rcases Nat.eq_zero_or_pos l.length with h | h
          · exact absurd (List.length_eq_zero_iff.1 h) hz
          · exact h
        obtain ⟨n, hj⟩ := jr_torn (evsOk_jOk.1 hv) hz
        have e := jT_ok hv
        have hp2 : 1 ≤ (jB 0 l).length := by
          cases l with
          | nil => exact absurd rfl hz
          | cons d t => simp only [jB, List.length_append, List.length_cons]; omega
        have es : (jT l).size = (jB 0 l).length := by rw [e, ofB_size]
        have hsub := ssub_B (s := jT l) (a := 0) (b := (jT l).size - 1) (by omega) (by omega)
        rw [show ((0 : Nat) : Int) = 0 from rfl, show (((jT l).size - 1 : Nat) : Int) = (((jT l).size : Nat) : Int) - 1 by omega, List.drop_zero, Nat.sub_zero, show (toB (jT l)).take ((jT l).size - 1) = (jB 0 l).dropLast by rw [es, e, toB_ofB, List.dropLast_eq_take]] at hsub
        have hto := slTo_nat (l := l) (k := l.length - 1) (by omega)
        rw [show ((l.length - 1 : Nat) : Int) = ((l.length : Nat) : Int) - 1 by omega, ← List.dropLast_eq_take] at hto
        rw [eqb_false.2 (by omega), cond_false, ssz_ok (by omega), Option.bind_some, hsub, Option.bind_some]
        rw [journal_impl (N := 3000001) (s := ofB (jB 0 l).dropLast) (res := (l.dropLast, n, 1)) (by rw [ofB_size, List.length_dropLast]; omega) (by omega) (by rw [toB_ofB]; exact hj), Option.bind_some, hto, Option.bind_some]
        simp only
        rw [e_sameEvents (by rw [List.length_dropLast]; omega), Option.bind_some, cond_true, eqb_true.2 rfl]

theorem p_FnExactJournalFrom (s : Str) (hs : s.size ≤ 140737488351232) : ∃ N, m_laws_FnExactJournalFrom N s = some true := by
  refine ⟨3000001, ?_⟩
  unfold m_laws_FnExactJournalFrom
  rw [ssz_ok (by omega), Option.bind_some]
  by_cases hb : (1048576 : Int) < ((s.size : Nat) : Int)
  · rw [ltb_true.2 hb]; rfl
  · rw [ltb_false.2 (by omega), cond_false]
    obtain ⟨res, h0, h1, h2⟩ := journal_both (N := 3000001) (s := s) (by omega) (by omega)
    have hl := ok_len (evsOk_jOk.2 (jr_first h0).1)
    have hmk := mkAll_le (stE_c 3000001) res.1 1
    rw [h2, Option.bind_some, h1, Option.bind_some]
    simp only
    rw [e_eqEventS (by omega), Option.bind_some, Bool.not_true, cond_false, eqb_true.2 rfl, Bool.not_true, cond_false, eqb_true.2 rfl, Bool.not_true, cond_false]
    rw [e_markEventS (by omega) (by omega) (by omega) (by omega), Option.bind_some]
    simp only
    rw [e_heldEventS (by omega) (by omega) (by omega) (by omega), Option.bind_some, ltb_false.2 (by omega), cond_false, eqb_true.2 rfl, Bool.not_true, cond_false, Option.bind_some]
    simp only
    rw [e_eqEventS (by omega), Option.bind_some, Bool.not_true, cond_false, eqb_true.2 rfl, Bool.not_true, cond_false, eqb_true.2 rfl, Bool.not_true, cond_false, Option.bind_some, ltb_false.2 (by omega), cond_false, eqb_true.2 rfl]
    rfl

theorem p_FnJournalOn (code : List UInt8) : ∃ N, m_laws_FnJournalOn N code = some true := by
  refine ⟨3000001, ?_⟩
  unfold m_laws_FnJournalOn
  cases ltb 1048576 ((code.length : Nat) : Int) with
  | true => rfl
  | false =>
    rw [cond_false]
    obtain ⟨s, hd, hsz⟩ := d_JournalFrom (N := 3000001) (by omega) (code := code)
    obtain ⟨res, h0, h1, h2⟩ := journal_both (N := 3000001) (s := s) (by omega) (by omega)
    have hl := ok_len (evsOk_jOk.2 (jr_first h0).1)
    rw [hd, Option.bind_some, h1, Option.bind_some, h2, Option.bind_some]
    simp only
    rw [eqb_true.2 rfl, Bool.not_true, cond_false, eqb_true.2 rfl, Bool.not_true, cond_false, e_sameEvents (by omega), Option.bind_some, Bool.not_true, cond_false, Option.bind_some]
    by_cases hw : res.2.2 = 0
    · rw [eqb_true.2 hw, Bool.not_true, cond_false, lsz_ok (by omega), Option.bind_some, e_impl_EventText (by decide) (by omega), Option.bind_some]
      cases he : seq (evT (((res.1.length : Nat) : Int) + 1) ⟨1, (⟨#[122, 122]⟩ : Str)⟩) (⟨#[]⟩ : Str) with
      | true => rfl
      | false =>
        have hline := line_evT rfl (seq_false.1 he)
        have hev := evT_ok hline.1
        have hlen := line_len (n := res.1.length + 1) (k := 1) (s := (⟨#[122, 122]⟩ : Str)) (by have := hline.1.2.1; omega) hline.1.2.2.2.2
        have hj := jr_on h0 hw hline.1
        have hts := toB_len s
        simp only at hj hev
        rw [cond_false, hev, ← ofB_toB s, cat_B (by omega), Option.bind_some, show (⟨#[10]⟩ : Str) = ofB [10] from rfl, cat_B (by rw [List.length_append, List.length_singleton]; omega), Option.bind_some, List.append_assoc]
        rw [journal_impl (N := 3000001) (res := (res.1 ++ [(⟨1, (⟨#[122, 122]⟩ : Str)⟩ : Event)], res.2.1 + ((lineB (res.1.length + 1) 1 (toB (⟨#[122, 122]⟩ : Str))).length + 1), 0)) (by rw [ofB_size, List.length_append, List.length_append, List.length_singleton]; omega) (by omega) (by rw [toB_ofB]; exact hj), Option.bind_some]
        simp only
        rw [eqb_true.2 rfl, cond_true, Option.bind_some, eqb_true.2 (by rw [List.length_append, List.length_singleton]; omega), cond_true, List.getElem?_append_right (Nat.le_refl _), Nat.sub_self, List.getElem?_cons_zero, Option.bind_some]
        rw [show (eqb 1 1 && seq (⟨#[122, 122]⟩ : Str) (⟨#[122, 122]⟩ : Str)) = true by rw [seq_self, eqb_true.2 rfl]; rfl, cond_true, ltb_true.2 (by omega)]
    · rw [eqb_false.2 hw]; rfl

theorem p_FnJournalWhy (code : List UInt8) : ∃ N, m_laws_FnJournalWhy N code = some true := by
  refine ⟨3000001, ?_⟩
  unfold m_laws_FnJournalWhy
  cases ltb 1048576 ((code.length : Nat) : Int) with
  | true => rfl
  | false =>
    rw [cond_false]
    obtain ⟨s, hd, hsz⟩ := d_JournalFrom (N := 3000001) (by omega) (code := code)
    obtain ⟨res, h0, h1, h2⟩ := journal_both (N := 3000001) (s := s) (by omega) (by omega)
    obtain ⟨g1, _, g2, g3⟩ := jr_first h0
    have hl := ok_len (evsOk_jOk.2 g1)
    rw [toB_len] at g2 g3
    rw [hd, Option.bind_some, h1, Option.bind_some, h2, Option.bind_some]
    simp only
    rw [eqb_true.2 rfl, Bool.not_true, cond_false, eqb_true.2 rfl, Bool.not_true, cond_false, e_sameEvents (by omega), Option.bind_some, Bool.not_true, cond_false, ssz_ok (by omega), Option.bind_some]
    have e : eqb res.2.2 0 = eqb ((res.2.1 : Nat) : Int) ((s.size : Nat) : Int) := by
      rw [Bool.eq_iff_iff, eqb_true, eqb_true, g3]
      omega
    rw [e, beq_self_eq_true, cond_true, leb_true.2 (by omega)]

theorem p_FnJournalFrom (code : List UInt8) : ∃ N, m_laws_FnJournalFrom N code = some true := by
  refine ⟨3000001, ?_⟩
  unfold m_laws_FnJournalFrom
  cases ltb 1048576 ((code.length : Nat) : Int) with
  | true => rfl
  | false =>
    rw [cond_false]
    obtain ⟨s, hd, hsz⟩ := d_JournalFrom (N := 3000001) (by omega) (code := code)
    obtain ⟨res, h0, h1, h2⟩ := journal_both (N := 3000001) (s := s) (by omega) (by omega)
    obtain ⟨g1, g2, g3, _⟩ := jr_first h0
    have hv := evsOk_jOk.2 g1
    have hl := ok_len hv
    rw [toB_len] at g3
    have hsub := ssub_B (s := s) (a := 0) (b := res.2.1) (by omega) g3
    rw [show ((0 : Nat) : Int) = 0 from rfl, List.drop_zero, Nat.sub_zero, g2] at hsub
    rw [hd, Option.bind_some, h1, Option.bind_some, h2, Option.bind_some]
    simp only
    rw [eqb_true.2 rfl, Bool.not_true, cond_false, eqb_true.2 rfl, Bool.not_true, cond_false, e_sameEvents (by omega), Option.bind_some, Bool.not_true, cond_false, hsub, Option.bind_some, e_impl_JournalText (ok_names hv) (by omega) (by omega), Option.bind_some, jT_ok hv, seq_self]
    rfl
end Go.Proofs.YtacecnffggffmaaDoor
