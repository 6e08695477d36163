/- Changes one after the other: both sides make them so. -/
import Derived.Test.YtmnhnldnnniglaaP50
import Derived.Test.YtmnhnldnnniglaaP42
set_option linter.all false
namespace Go.Proofs.Ytmnhnldnnniglaa

theorem impl_chL {N B : Nat} {l : List Change} (hs : ∀ c ∈ l, smallS c.step B) (h8 : 8 ≤ B) (hB : B ≤ 1999999999) (hN : B < N) (h100 : 1000002 < N) : ∀ (m n k : Nat) (v : Int) (s : List Step), l.length - k = m → k ≤ l.length → m < n → smallF ⟨v, s⟩ 8 →
    m_impl_FlowChanges_L8 N l n v s k = some (bif (chL ⟨v, s⟩ (l.drop k)).2 then .brk ((chL ⟨v, s⟩ (l.drop k)).1.ver, (chL ⟨v, s⟩ (l.drop k)).1.steps, l.length) else .ret (⟨0, []⟩, false))
  | 0, n, k, v, s, hm, hk, hn, hf => by
    obtain ⟨n, rfl⟩ : ∃ n', n = n' + 1 := ⟨n - 1, by omega⟩
    obtain rfl : k = l.length := by omega
    simp only [m_impl_FlowChanges_L8]
    rw [ltb_false.2 (by omega), List.drop_eq_nil_of_le (by omega)]; rfl
  | m + 1, n, k, v, s, hm, hk, hn, hf => by
    obtain ⟨n, rfl⟩ : ∃ n', n = n' + 1 := ⟨n - 1, by omega⟩
    have hkl : k < l.length := by omega
    simp only [m_impl_FlowChanges_L8]
    rw [ltb_true.2 (by omega), cond_true, List.getElem?_eq_getElem hkl, Option.bind_some, e_impl_FlowChange (B := B) ⟨by have := hf.1; omega, fun x hx => ⟨by have := (hf.2 x hx).1; omega, by have := (hf.2 x hx).2.1; omega, fun z hz => by have := (hf.2 x hx).2.2 z hz; omega⟩⟩ (hs _ (List.getElem_mem hkl)) hB hN h100, Option.bind_some]
    rw [List.drop_eq_getElem_cons hkl, chL_cons]
    cases hc : (chF ⟨v, s⟩ l[k]).2 with
    | false => rfl
    | true =>
      simp only [Bool.not_true, cond_false, cond_true]
      exact impl_chL hs h8 hB hN h100 m n (k + 1) _ _ (by omega) (by omega) (by omega) (chF_small ⟨v, s⟩ l[k])

theorem spec_chL {N B : Nat} {l : List Change} (hs : ∀ c ∈ l, smallS c.step B) (h8 : 8 ≤ B) (hB : B ≤ 1999999999) (hN : B < N) (h100 : 1000002 < N) : ∀ (m n k : Nat) (v : Int) (s : List Step), l.length - k = m → k ≤ l.length → m < n → smallF ⟨v, s⟩ 8 →
    m_spec_FlowChanges_L9 N l n v s k = some (bif (chL ⟨v, s⟩ (l.drop k)).2 then .brk ((chL ⟨v, s⟩ (l.drop k)).1.ver, (chL ⟨v, s⟩ (l.drop k)).1.steps, l.length) else .ret (⟨0, []⟩, false))
  | 0, n, k, v, s, hm, hk, hn, hf => by
    obtain ⟨n, rfl⟩ : ∃ n', n = n' + 1 := ⟨n - 1, by omega⟩
    obtain rfl : k = l.length := by omega
    simp only [m_spec_FlowChanges_L9]
    rw [ltb_false.2 (by omega), List.drop_eq_nil_of_le (by omega)]; rfl
  | m + 1, n, k, v, s, hm, hk, hn, hf => by
    obtain ⟨n, rfl⟩ : ∃ n', n = n' + 1 := ⟨n - 1, by omega⟩
    have hkl : k < l.length := by omega
    simp only [m_spec_FlowChanges_L9]
    rw [ltb_true.2 (by omega), cond_true, List.getElem?_eq_getElem hkl, Option.bind_some, e_spec_FlowChange (B := B) ⟨by have := hf.1; omega, fun x hx => ⟨by have := (hf.2 x hx).1; omega, by have := (hf.2 x hx).2.1; omega, fun z hz => by have := (hf.2 x hx).2.2 z hz; omega⟩⟩ (hs _ (List.getElem_mem hkl)) hB hN (by omega), Option.bind_some]
    rw [List.drop_eq_getElem_cons hkl, chL_cons]
    cases hc : (chF ⟨v, s⟩ l[k]).2 with
    | false => rfl
    | true =>
      simp only [Bool.not_true, cond_false, cond_true]
      exact spec_chL hs h8 hB hN h100 m n (k + 1) _ _ (by omega) (by omega) (by omega) (chF_small ⟨v, s⟩ l[k])

theorem chL_false : ∀ (l : List Change) (f : Flow), (chL f l).2 = false → chL f l = (⟨0, []⟩, false)
  | [], f, h => by cases h
  | c :: t, f, h => by
    rw [chL_cons] at h ⊢
    cases hc : (chF f c).2 with
    | false => rfl
    | true => rw [hc] at h; exact chL_false t _ h

theorem e_impl_FlowChanges {N B : Nat} {f : Flow} {l : List Change} (hf : smallF f B) (hs : ∀ c ∈ l, smallS c.step B) (hl : l.length < N) (h8 : 8 ≤ B) (hB : B ≤ 1999999999) (hN : B < N) (h100 : 1000002 < N) : m_impl_FlowChanges N f l = some (chAll f l) := by
  unfold m_impl_FlowChanges chAll
  rw [e_impl_FlowValid hf (by omega) (by omega), Option.bind_some]
  cases h1 : flowOk f with
  | false => rfl
  | true =>
    have sf := flow_small h1
    simp only [Bool.not_true, cond_false, cond_true]
    rw [e_Flow_clone sf (by omega) (by omega), Option.bind_some, impl_chL hs h8 hB hN h100 l.length N 0 _ _ (by omega) (by omega) hl sf, List.drop_zero, Option.bind_some]
    cases h2 : (chL ⟨f.ver, f.steps⟩ l).2 with
    | false =>
      rw [show chL f l = (⟨0, []⟩, false) from chL_false l f h2]
      rfl
    | true =>
      simp only [cond_true, Ex.go]
      refine congrArg some (Prod.ext rfl ?_)
      exact h2.symm
theorem e_spec_FlowChanges {N B : Nat} {f : Flow} {l : List Change} (hf : smallF f B) (hs : ∀ c ∈ l, smallS c.step B) (hl : l.length < N) (h8 : 8 ≤ B) (hB : B ≤ 1999999999) (hN : B < N) (h100 : 1000002 < N) : m_spec_FlowChanges N f l = some (chAll f l) := by
  unfold m_spec_FlowChanges chAll
  rw [e_spec_FlowValid hf (by omega) (by omega), Option.bind_some]
  cases h1 : flowOk f with
  | false => rfl
  | true =>
    have sf := flow_small h1
    simp only [Bool.not_true, cond_false, cond_true]
    rw [e_l2Copy sf (by omega) (by omega), Option.bind_some, spec_chL hs h8 hB hN h100 l.length N 0 _ _ (by omega) (by omega) hl sf, List.drop_zero, Option.bind_some]
    cases h2 : (chL ⟨f.ver, f.steps⟩ l).2 with
    | false =>
      rw [show chL f l = (⟨0, []⟩, false) from chL_false l f h2]
      rfl
    | true =>
      simp only [cond_true, Ex.go]
      refine congrArg some (Prod.ext rfl ?_)
      exact h2.symm
end Go.Proofs.Ytmnhnldnnniglaa
