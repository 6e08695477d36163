/- The laws: a new flow is the newest one; what was put is found. -/
import Derived.Test.YthlhkinkcbamgaaP9
import Derived.Test.YthlhkinkcbamgaaP6
set_option linter.all false
namespace Go.Proofs.Ythlhkinkcbamgaa

theorem e_cloneFlows {N B : Nat} {l : List Flow} (hl : smallR l B) (hB : B ≤ 1999999999) (hN : B < N) : m_impl_cloneFlows N l = some l := by
  have h0 := hl.1
  unfold m_impl_cloneFlows
  rw [pick_list (fun _ : Flow => true) (fun s => s) (fun n s k => m_impl_cloneFlows_L5 N l n s k) l (fun k s => (s, k)) N (by omega) ?_ ?_, Option.bind_some]
  · rw [List.filter_eq_self.2 (fun _ _ => rfl)]; simp [Ex.go]
  · rintro n s k rfl
    simp only [m_impl_cloneFlows_L5]
    rw [ltb_false.2 (by omega)]; rfl
  · intro n s k h hs
    simp only [m_impl_cloneFlows_L5]
    rw [ltb_true.2 (by omega), cond_true, List.getElem?_eq_getElem h, Option.bind_some, e_Flow_clone (hl.2 _ (List.getElem_mem h)) hB hN, Option.bind_some, appd_ok (by simp; omega)]; rfl
theorem e_l14Copy {N B : Nat} {l : List Flow} (hl : smallR l B) (hB : B ≤ 1999999999) (hN : B < N) : m_spec_l14Copy N l = some l := by
  have h0 := hl.1
  unfold m_spec_l14Copy
  rw [pick_list (fun _ : Flow => true) (fun s => s) (fun n s k => m_spec_l14Copy_L5 N l n s k) l (fun k s => (s, k)) N (by omega) ?_ ?_, Option.bind_some]
  · rw [List.filter_eq_self.2 (fun _ _ => rfl)]; simp [Ex.go]
  · rintro n s k rfl
    simp only [m_spec_l14Copy_L5]
    rw [ltb_false.2 (by omega)]; rfl
  · intro n s k h hs
    simp only [m_spec_l14Copy_L5]
    rw [ltb_true.2 (by omega), cond_true, List.getElem?_eq_getElem h, Option.bind_some, e_l2Copy (hl.2 _ (List.getElem_mem h)) hB hN, Option.bind_some, appd_ok (by simp; omega)]; rfl

def nextV (l : List Flow) : Int := if h : 0 < l.length then w64 ((l[l.length - 1]'(by omega)).ver + 1) else 1
theorem e_next (l : List Flow) : ((bif ltb 0 ((l.length : Nat) : Int) then (geti l (((l.length : Nat) : Int) - 1)).bind fun y => some (w64 (y.ver + 1)) else some 1) : Option Int) = some (nextV l) := by
  unfold nextV
  by_cases h : 0 < l.length
  · rw [dif_pos h, ltb_true.2 (by omega), cond_true, show ((l.length : Nat) : Int) - 1 = ((l.length - 1 : Nat) : Int) by omega, geti_nat, List.getElem?_eq_getElem (by omega), Option.bind_some]
  · rw [dif_neg h, ltb_false.2 (by omega), cond_false]

def putL (l : List Flow) (f : Flow) : List Flow := l ++ [⟨nextV l, f.steps⟩]
def putF (l : List Flow) (f : Flow) : List Flow × Bool := bif regOk l then (bif flowOk f then (bif regOk (putL l f) then (putL l f, true) else ([], false)) else ([], false)) else ([], false)

theorem putL_small {l : List Flow} {f : Flow} (hl : smallR l 8) (h5 : l.length ≤ 5) (hf : smallF f 8) : smallR (putL l f) 8 := by
  unfold putL
  refine ⟨by simp; omega, fun g hg => ?_⟩
  rcases List.mem_append.1 hg with h | h
  · exact hl.2 g h
  · rw [List.mem_singleton.1 h]; have k := hf; exact k

theorem reg_flow {l : List Flow} (h : regOk l = true) {f : Flow} (hf : f ∈ l) : flowOk f = true := by
  unfold regOk at h
  rw [Bool.and_eq_true] at h
  obtain ⟨i, hi, rfl⟩ := List.getElem_of_mem hf
  have := allIdx_true.1 h.1 i hi
  unfold regStep at this
  rw [Bool.and_eq_true] at this
  exact this.1
theorem reg_asc {l : List Flow} (h : regOk l = true) : l.Pairwise fun a b => a.ver < b.ver := by
  unfold regOk at h
  rw [Bool.and_eq_true] at h
  refine adj_pw (R := fun a b : Flow => a.ver < b.ver) (fun h1 h2 => Int.lt_trans h1 h2) fun i hi h0 => ?_
  have := allIdx_true.1 h.1 i hi
  unfold regStep at this
  simp only [Bool.and_eq_true, Nat.zero_add, Bool.or_eq_true, decide_eq_true_eq] at this
  rcases this.2 with h1 | h1
  · omega
  · rw [List.getElem?_eq_getElem (by omega)] at h1
    exact ltb_true.1 h1
theorem reg_inj {l : List Flow} (h : regOk l = true) {i j : Nat} (hi : i < l.length) (hj : j < l.length) (e : l[i].ver = l[j].ver) : i = j := by
  have := List.pairwise_iff_getElem.1 (reg_asc h)
  rcases Nat.lt_trichotomy i j with h1 | h1 | h1
  · have := this i j hi hj h1; omega
  · exact h1
  · have := this j i hj hi h1; omega
theorem sameF_steps {f g : Flow} (hf : flowOk f = true) (hg : flowOk g = true) (e : f.steps = g.steps) : sameF f g = true := by
  unfold sameF
  rw [hf, hg, e, eqb_true.2 rfl]
  simp only [Bool.true_and]
  rw [allIdx_true]
  intro i hi
  simp only [Nat.zero_add, List.getElem?_eq_getElem hi]
  exact (stepEq_true _ _).2 rfl

theorem verAt_has {l : List Flow} {v : Int} {j : Nat} (hj : j < l.length) (e : l[j].ver = v) : ∃ (i : Nat) (h : i < l.length), verAt l v = i ∧ l[i].ver = v := by
  rcases verAt_cases l v with h | h
  · exfalso
    unfold verAt at h
    cases hc : l.findIdx? (fun f => eqb f.ver v) with
    | none =>
      have := List.findIdx?_eq_none_iff.1 hc _ (List.getElem_mem hj)
      rw [eqb_true.2 e] at this
      cases this
    | some i => rw [hc] at h; simp only at h; omega
  · exact h

end Go.Proofs.Ythlhkinkcbamgaa
