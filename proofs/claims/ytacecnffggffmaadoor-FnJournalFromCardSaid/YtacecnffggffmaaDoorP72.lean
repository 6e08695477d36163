/- Lines of events: the words of a line, as both programs cut them. -/
import Derived.Test.YtacecnffggffmaaDoorP71
set_option linter.all false
namespace Go.Proofs.YtacecnffggffmaaDoor

theorem splitB_words : ∀ (m : Nat) (s : Str), s.size ≤ m → Lib.splitB ⟨#[32]⟩ 0 (Lib.countB s ⟨#[32]⟩) s = (splitW (toB s)).map ofB
  | m, s, hm => by
    have h1 : Lib.indexB s (⟨#[32]⟩ : Str) = Lib.indexByte (toB s) 32 := by
      show Lib.index (toB s) [32] = _; exact Lib.index_one _ _
    by_cases h : Lib.indexByte (toB s) 32 = -1
    · rw [Lib.countB_miss s _ (by rw [h1, h]), Lib.splitB_zero]
      rw [splitW_word _ (fun b hb e => by
        obtain ⟨k, hk, rfl⟩ := List.mem_iff_getElem.1 hb
        exact Lib.indexByte_none h k (by rw [List.getElem?_eq_getElem hk, e])), List.map_singleton, ofB_toB]
    · have hge := Lib.indexByte_ge (toB s) 32
      obtain ⟨i, hi⟩ : ∃ i : Nat, Lib.indexByte (toB s) 32 = i := ⟨(Lib.indexByte (toB s) 32).toNat, by omega⟩
      obtain ⟨h2, h3⟩ := Lib.indexByte_some hi
      obtain ⟨hil, hie⟩ := List.getElem?_eq_some_iff.1 h2
      have hsz := toB_len s
      have hx : Lib.indexB s (⟨#[32]⟩ : Str) = i := by rw [h1, hi]
      rw [Lib.countB_hit s _ i (by decide) hx, Nat.add_comm 1, Lib.splitB_hit _ _ _ _ i hx]
      have e1 : (⟨#[32]⟩ : Str).size = 1 := rfl
      have e2 : toB (s.extract (i + 1) s.size) = (toB s).drop (i + 1) := by
        rw [toB_extract, List.take_of_length_le (by rw [List.length_drop]; omega)]
      have e3 : (s.extract (i + 1) s.size).size < m := by
        rw [← toB_len, e2, List.length_drop]; omega
      rw [e1]
      cases m with
      | zero => omega
      | succ m =>
        rw [splitB_words m _ (by omega), e2]
        have e4 : toB s = (toB s).take i ++ 32 :: (toB s).drop (i + 1) := by
          conv => lhs; rw [← List.take_append_drop i (toB s), List.drop_eq_getElem_cons hil, hie]
        have e5 : splitW (toB s) = (toB s).take i :: splitW ((toB s).drop (i + 1)) := by
          conv => lhs; rw [e4]
          refine splitW_cons _ _ fun b hb e => ?_
          obtain ⟨k, hk, rfl⟩ := List.mem_iff_getElem.1 hb
          rw [List.length_take] at hk
          rw [List.getElem_take] at e
          exact h3 k (by omega) (by rw [List.getElem?_eq_getElem (by omega), e])
        rw [e5, List.map_cons, Nat.add_zero, show s.extract 0 i = ofB ((toB s).take i) by
          apply toB_inj
          rw [toB_extract, toB_ofB, List.drop_zero, Nat.sub_zero]]
theorem count_le' : ∀ (m : Nat) (s : Str), s.size ≤ m → Lib.countB s ⟨#[32]⟩ ≤ s.size + 1 := fun _ s _ => by
  have := Lib.count_le s.data.toList (⟨#[32]⟩ : Str).data.toList
  rw [size_toList] at this
  exact this
theorem e_Split {N : Nat} {s : Str} (hs : s.size ≤ 2000000) : m_strings_Split N s (⟨#[32]⟩ : Str) = some ((splitW (toB s)).map ofB) := by
  unfold m_strings_Split
  have := count_le' s.size s (Nat.le_refl _)
  rw [if_pos ⟨by omega, by decide, by omega⟩, splitB_words s.size s (Nat.le_refl _)]

theorem cut_go {N : Nat} {s : Str} (hs : s.size ≤ 2000000) : ∀ (t : Bs) (n k st : Nat) (acc : List Str), (toB s).drop k = t → k ≤ s.size → st ≤ k → t.length < n → acc.length + t.length ≤ 3000000000 → (∀ b ∈ ((toB s).drop st).take (k - st), b ≠ 32) →
    ∃ acc' st', m_spec_l5Cut_L6 N s n acc st k = some (.brk (acc', st', s.size)) ∧ st' ≤ s.size ∧ acc'.length ≤ acc.length + t.length ∧ acc' ++ [ofB ((toB s).drop st')] = acc ++ (splitW ((toB s).drop st)).map ofB
  | [], n, k, st, acc, ht, hk, hst, hn, ha, hb => by
    obtain ⟨m, rfl⟩ : ∃ m, n = m + 1 := ⟨n - 1, by simp at hn; omega⟩
    have hsz := toB_len s
    have : s.size = k := by have := List.drop_eq_nil_iff.1 ht; omega
    refine ⟨acc, st, ?_, by omega, by omega, ?_⟩
    · simp only [m_spec_l5Cut_L6]
      rw [ssz_ok (by omega), Option.bind_some, ltb_false.2 (by omega), cond_false, this]
    · rw [List.take_of_length_le (by rw [List.length_drop]; omega)] at hb
      rw [splitW_word _ hb]; rfl
  | x :: t, n, k, st, acc, ht, hk, hst, hn, ha, hb => by
    obtain ⟨m, rfl⟩ : ∃ m, n = m + 1 := ⟨n - 1, by simp at hn; omega⟩
    have hsz := toB_len s
    have hkl : k < (toB s).length := by
      rcases Nat.lt_or_ge k (toB s).length with h | h
      · exact h
      · rw [List.drop_of_length_le h] at ht; cases ht
    have hd := List.drop_eq_getElem_cons hkl
    rw [ht] at hd
    injection hd with hx hd
    have hk' : k < s.size := by omega
    have hxk : (s[k]'hk') = x := by rw [hx]; exact (getElem_toList s k hk').symm
    simp only [List.length_cons] at hn ha
    simp only [m_spec_l5Cut_L6]
    rw [ssz_ok (by omega), Option.bind_some, ltb_true.2 (by omega), cond_true, bget_ok hk', Option.bind_some, hxk]
    have hdk : (toB s).drop st = ((toB s).drop st).take (k - st) ++ x :: (toB s).drop (k + 1) := by
      conv => lhs; rw [← List.take_append_drop (k - st) ((toB s).drop st), List.drop_drop, show st + (k - st) = k by omega, ht, hd]
    by_cases h32 : x = 32
    · subst h32
      rw [show eqb (((32 : UInt8).toNat : Nat) : Int) 32 = true from eqb_true.2 rfl, cond_true, ssub_B hst (by omega), Option.bind_some, appd_ok (by simp only [List.length_singleton]; omega), Option.bind_some]
      obtain ⟨a', s', g1, g2, g3, g4⟩ := cut_go hs t m (k + 1) (k + 1) (acc ++ [ofB (((toB s).drop st).take (k - st))]) hd.symm (by omega) (Nat.le_refl _) (by omega) (by simp only [List.length_append, List.length_singleton]; omega) (by simp)
      refine ⟨a', s', g1, g2, ?_, ?_⟩
      · simp only [List.length_append, List.length_cons, List.length_nil] at g3 ⊢; omega
      · rw [g4]
        conv => rhs; rw [hdk, splitW_cons _ _ hb, List.map_cons]
        rw [List.append_assoc]; rfl
    · have hne : ¬ ((x.toNat : Nat) : Int) = 32 := fun e => h32 (UInt8.toNat_inj.1 (by
        have : x.toNat = 32 := by omega
        rw [this]; rfl))
      rw [eqb_false.2 hne, cond_false]
      obtain ⟨a', s', g1, g2, g3, g4⟩ := cut_go hs t m (k + 1) st acc hd.symm (by omega) (by omega) (by omega) (by omega) (fun b hb2 => by
        rw [hdk, List.take_append, List.length_take, List.length_drop] at hb2
        rcases List.mem_append.1 hb2 with h1 | h1
        · rw [List.take_take, show min (k + 1 - st) (k - st) = k - st by omega] at h1
          exact hb b h1
        · rw [show k + 1 - st - min (k - st) ((toB s).length - st) = 1 by omega] at h1
          simp only [List.take_succ_cons, List.take_zero, List.mem_singleton] at h1
          rw [h1]; exact h32)
      exact ⟨a', s', g1, g2, by simp only [List.length_cons]; omega, g4⟩
theorem e_Cut {N : Nat} {s : Str} (hs : s.size ≤ 2000000) (hN : s.size < N) : m_spec_l5Cut N s = some ((splitW (toB s)).map ofB) := by
  unfold m_spec_l5Cut
  have hsz := toB_len s
  obtain ⟨a, st, g1, g2, g3, g4⟩ := cut_go (N := N) hs (toB s) N 0 0 [] rfl (Nat.zero_le _) (Nat.le_refl _) (by omega) (by simp only [List.length_nil]; omega) (by simp)
  rw [g1, Option.bind_some]
  simp only [Ex.go]
  have e : ((toB s).drop st).take (s.size - st) = (toB s).drop st := List.take_of_length_le (by rw [List.length_drop]; omega)
  rw [ssub_B g2 (Nat.le_refl _), Option.bind_some, e, appd_ok (by simp only [List.length_nil, List.length_singleton] at g3 ⊢; omega), Option.bind_some, g4]
  rfl
end Go.Proofs.YtacecnffggffmaaDoor
