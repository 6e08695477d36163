/- Changes one after the other. -/
import Derived.Test.YtmnhnldnnniglaaGreatP44
import Derived.Test.YtmnhnldnnniglaaGreatP42
import Derived.Test.YtmnhnldnnniglaaGreatP48
set_option linter.all false
namespace Go.Proofs.YtmnhnldnnniglaaGreat

def chL : Flow → List Change → Flow × Bool
  | f, [] => (f, true)
  | f, c :: t => bif (chF f c).2 then chL (chF f c).1 t else (⟨0, []⟩, false)
def chAll (f : Flow) (l : List Change) : Flow × Bool := bif flowOk f then chL f l else (⟨0, []⟩, false)

theorem chL_cons (f : Flow) (c : Change) (t : List Change) : chL f (c :: t) = bif (chF f c).2 then chL (chF f c).1 t else (⟨0, []⟩, false) := rfl
theorem ch_true_ok {f : Flow} {c : Change} (h : (chF f c).2 = true) : flowOk (chF f c).1 = true := by
  obtain ⟨_, _, st, _, h4, h5⟩ := ch_cases h
  rw [h5]; exact h4
theorem chL_small : ∀ (l : List Change) (f : Flow), smallF f 8 → smallF (chL f l).1 8
  | [], f, h => h
  | c :: t, f, h => by
    unfold chL
    cases (chF f c).2 with
    | true => exact chL_small t _ (chF_small f c)
    | false => exact ⟨by simp, by simp⟩
theorem chL_ok : ∀ (l : List Change) (f : Flow), flowOk f = true → (chL f l).2 = true → flowOk (chL f l).1 = true
  | [], f, h, _ => h
  | c :: t, f, h, h2 => by
    unfold chL at h2 ⊢
    cases hc : (chF f c).2 with
    | true => rw [hc] at h2; exact chL_ok t _ (ch_true_ok hc) h2
    | false => rw [hc] at h2; cases h2
theorem chL_ver : ∀ (l : List Change) (f : Flow), (chL f l).2 = true → (chL f l).1.ver = f.ver + l.length
  | [], f, _ => by simp [chL]
  | c :: t, f, h2 => by
    unfold chL at h2 ⊢
    cases hc : (chF f c).2 with
    | true =>
      rw [hc] at h2
      obtain ⟨_, _, st, _, h4, h5⟩ := ch_cases hc
      simp only [cond_true] at h2 ⊢
      rw [chL_ver t _ h2, h5, List.length_cons]
      simp only
      omega
    | false => rw [hc] at h2; cases h2
theorem chL_append : ∀ (l m : List Change) (f : Flow), chL f (l ++ m) = bif (chL f l).2 then chL (chL f l).1 m else (⟨0, []⟩, false)
  | [], m, f => rfl
  | c :: t, m, f => by
    rw [List.cons_append, chL_cons, chL_cons]
    cases (chF f c).2 with
    | true => simp only [cond_true]; exact chL_append t m _
    | false => rfl

theorem chAll_true {f : Flow} {l : List Change} (h : (chAll f l).2 = true) : flowOk f = true ∧ (chL f l).2 = true ∧ chAll f l = chL f l := by
  unfold chAll at h ⊢
  cases hf : flowOk f with
  | true => rw [hf] at h; exact ⟨rfl, h, rfl⟩
  | false => rw [hf] at h; cases h
theorem chAll_small {f : Flow} {l : List Change} (hf : smallF f 8) : smallF (chAll f l).1 8 := by
  unfold chAll
  cases flowOk f with
  | true => exact chL_small l f hf
  | false => exact ⟨by simp, by simp⟩
theorem chAll_small2 {f : Flow} {l : List Change} : smallF (chAll f l).1 8 := by
  unfold chAll
  cases hf : flowOk f with
  | true => exact chL_small l f (flow_small hf)
  | false => exact ⟨by simp, by simp⟩

theorem impl_chL {N B : Nat} {l : List Change} (hs : ∀ c ∈ l, smallS c.step B) (h8 : 8 ≤ B) (hB : B ≤ 1999999999) (hN : B < N) (h100 : 1000002 < N) : ∀ (m n k : Nat) (v : Int) (s : List Step), l.length - k = m → k ≤ l.length → m < n → smallF ⟨v, s⟩ 8 →
    m_impl_FlowChanges_L8 N l n v s k = some (bif (chL ⟨v, s⟩ (l.drop k)).2 then .brk ((chL ⟨v, s⟩ (l.drop k)).1.ver, (chL ⟨v, s⟩ (l.drop k)).1.steps, l.length) else .ret (⟨0, []⟩, false))
  | 0, n, k, v, s, hm, hk, hn, hf => by
    obtain ⟨n, rfl⟩ : ∃ n', n = n' + 1 := ⟨n - 1, by omega⟩
    obtain rfl : k = l.length := by omega
    simp only [m_impl_FlowChanges_L8]
    rw [ltb_false.2 (by omega), List.drop_eq_nil_of_le (by omega)]; rfl
  | m + 1, n, k, v, s, hm, hk, hn, hf => by
    obtain ⟨n, rfl⟩ : ∃ n', n = n' + 1 := ⟨n - 1, by omega⟩
    have hkl : k < l.length := by omega
    simp only [m_impl_FlowChanges_L8]
    rw [ltb_true.2 (by omega), cond_true, List.getElem?_eq_getElem hkl, Option.bind_some, e_impl_FlowChange (B := B) ⟨by have := hf.1; omega, fun x hx => ⟨by have := (hf.2 x hx).1; omega, by have := (hf.2 x hx).2.1; omega, fun z hz => by have := (hf.2 x hx).2.2 z hz; omega⟩⟩ (hs _ (List.getElem_mem hkl)) hB hN h100, Option.bind_some]
    rw [List.drop_eq_getElem_cons hkl, chL_cons]
    cases hc : (chF ⟨v, s⟩ l[k]).2 with
    | false => rfl
    | true =>
      simp only [Bool.not_true, cond_false, cond_true]
      exact impl_chL hs h8 hB hN h100 m n (k + 1) _ _ (by omega) (by omega) (by omega) (chF_small ⟨v, s⟩ l[k])

theorem spec_chL {N B : Nat} {l : List Change} (hs : ∀ c ∈ l, smallS c.step B) (h8 : 8 ≤ B) (hB : B ≤ 1999999999) (hN : B < N) (h100 : 1000002 < N) : ∀ (m n k : Nat) (v : Int) (s : List Step), l.length - k = m → k ≤ l.length → m < n → smallF ⟨v, s⟩ 8 →
    m_spec_FlowChanges_L9 N l n v s k = some (bif (chL ⟨v, s⟩ (l.drop k)).2 then .brk ((chL ⟨v, s⟩ (l.drop k)).1.ver, (chL ⟨v, s⟩ (l.drop k)).1.steps, l.length) else .ret (⟨0, []⟩, false))
  | 0, n, k, v, s, hm, hk, hn, hf => by
    obtain ⟨n, rfl⟩ : ∃ n', n = n' + 1 := ⟨n - 1, by omega⟩
    obtain rfl : k = l.length := by omega
    simp only [m_spec_FlowChanges_L9]
    rw [ltb_false.2 (by omega), List.drop_eq_nil_of_le (by omega)]; rfl
  | m + 1, n, k, v, s, hm, hk, hn, hf => by
    obtain ⟨n, rfl⟩ : ∃ n', n = n' + 1 := ⟨n - 1, by omega⟩
    have hkl : k < l.length := by omega
    simp only [m_spec_FlowChanges_L9]
    rw [ltb_true.2 (by omega), cond_true, List.getElem?_eq_getElem hkl, Option.bind_some, e_spec_FlowChange (B := B) ⟨by have := hf.1; omega, fun x hx => ⟨by have := (hf.2 x hx).1; omega, by have := (hf.2 x hx).2.1; omega, fun z hz => by have := (hf.2 x hx).2.2 z hz; omega⟩⟩ (hs _ (List.getElem_mem hkl)) hB hN (by omega), Option.bind_some]
    rw [List.drop_eq_getElem_cons hkl, chL_cons]
    cases hc : (chF ⟨v, s⟩ l[k]).2 with
    | false => rfl
    | true =>
      simp only [Bool.not_true, cond_false, cond_true]
      exact spec_chL hs h8 hB hN h100 m n (k + 1) _ _ (by omega) (by omega) (by omega) (chF_small ⟨v, s⟩ l[k])

theorem chL_false : ∀ (l : List Change) (f : Flow), (chL f l).2 = false → chL f l = (⟨0, []⟩, false)
  | [], f, h => by cases h
  | c :: t, f, h => by
    rw [chL_cons] at h ⊢
    cases hc : (chF f c).2 with
    | false => rfl
    | true => rw [hc] at h; exact chL_false t _ h

theorem e_impl_FlowChanges {N B : Nat} {f : Flow} {l : List Change} (hf : smallF f B) (hs : ∀ c ∈ l, smallS c.step B) (hl : l.length < N) (h8 : 8 ≤ B) (hB : B ≤ 1999999999) (hN : B < N) (h100 : 1000002 < N) : m_impl_FlowChanges N f l = some (chAll f l) := by
  unfold m_impl_FlowChanges chAll
  rw [e_impl_FlowValid hf (by omega) (by omega), Option.bind_some]
  cases h1 : flowOk f with
  | false => rfl
  | true =>
    have sf := flow_small h1
    simp only [Bool.not_true, cond_false, cond_true]
    rw [e_Flow_clone sf (by omega) (by omega), Option.bind_some, impl_chL hs h8 hB hN h100 l.length N 0 _ _ (by omega) (by omega) hl sf, List.drop_zero, Option.bind_some]
    cases h2 : (chL ⟨f.ver, f.steps⟩ l).2 with
    | false =>
      rw [show chL f l = (⟨0, []⟩, false) from chL_false l f h2]
      rfl
    | true =>
      simp only [cond_true, Ex.go]
      refine congrArg some (Prod.ext rfl ?_)
      exact h2.symm
theorem e_spec_FlowChanges {N B : Nat} {f : Flow} {l : List Change} (hf : smallF f B) (hs : ∀ c ∈ l, smallS c.step B) (hl : l.length < N) (h8 : 8 ≤ B) (hB : B ≤ 1999999999) (hN : B < N) (h100 : 1000002 < N) : m_spec_FlowChanges N f l = some (chAll f l) := by
  unfold m_spec_FlowChanges chAll
  rw [e_spec_FlowValid hf (by omega) (by omega), Option.bind_some]
  cases h1 : flowOk f with
  | false => rfl
  | true =>
    have sf := flow_small h1
    simp only [Bool.not_true, cond_false, cond_true]
    rw [e_l2Copy sf (by omega) (by omega), Option.bind_some, spec_chL hs h8 hB hN h100 l.length N 0 _ _ (by omega) (by omega) hl sf, List.drop_zero, Option.bind_some]
    cases h2 : (chL ⟨f.ver, f.steps⟩ l).2 with
    | false =>
      rw [show chL f l = (⟨0, []⟩, false) from chL_false l f h2]
      rfl
    | true =>
      simp only [cond_true, Ex.go]
      refine congrArg some (Prod.ext rfl ?_)
      exact h2.symm

def stCE (N : Nat) (c : Change) (k : Int) : Change × Int := (⟨k, ⟨mtx N (k + 1), (mkAll (stT N) c.step.after (k + 1 + 1)).1, eqb (Int.tmod (k + 1 + 1 + c.step.after.length) 3) 0⟩⟩, k + 1 + 1 + c.step.after.length + 1)
def cChE (c : Change) : Nat := c.step.after.length + 3
theorem stCE_c (N : Nat) (x : Change) (k : Int) : k ≤ (stCE N x k).2 ∧ (stCE N x k).2 ≤ k + cChE x := by unfold stCE cChE; simp only; omega
theorem mk_ChangeSE {N : Nat} {l : List Change} {k : Int} (hN : 100 < N) (hl : l.length < N) (ha : ∀ c ∈ l, c.step.after.length < N) (h0 : 0 ≤ k) (h1 : k + wsum cChE l ≤ 4000000000000000000) :
    ∃ k' l', m_laws_markChangeS N l k = some (k', l') ∧ k ≤ k' ∧ k' ≤ k + wsum cChE l := by
  have hc := mkAll_le (stCE_c N) l k
  have e := mkAll_len (stCE N) l k
  refine ⟨(mkAll (stCE N) l k).2, (mkAll (stCE N) l k).1, ?_, hc.1, hc.2⟩
  unfold m_laws_markChangeS
  rw [mark_list (stCE N) cChE 4000000000000000000 (fun n s k i => m_laws_markChangeS_L4 N l n s k i) l N hl k h0 h1 (stCE_c N) ?_ ?_, Option.bind_some]
  · rfl
  · rintro n s k i rfl
    simp only [m_laws_markChangeS_L4]
    rw [ltb_false.2 (by omega)]; rfl
  · intro n s k i x h hs hx hxl hk hB
    have hal := ha x (by rw [hxl]; exact List.getElem_mem h)
    unfold cChE at hB
    simp only [m_laws_markChangeS_L4]
    rw [ltb_true.2 (by omega), cond_true, hx, Option.bind_some, w64_id (by omega), e_mtx hN (by omega) (by omega), Option.bind_some, List.getElem?_set_self (by omega), Option.bind_some]
    simp only
    rw [List.set_set, List.getElem?_set_self (by omega), Option.bind_some]
    simp only
    rw [w64_id (by omega), e_markStringS hN hal (by omega) (by omega), Option.bind_some]
    simp only
    rw [List.set_set, List.getElem?_set_self (by omega), Option.bind_some, List.set_set, w64_id (by omega)]
    rfl
theorem e_eqChangeSE {N : Nat} {l : List Change} (hl : l.length < N) (ha : ∀ c ∈ l, c.step.after.length < N) : m_laws_eqChangeS N l l = some true := by
  unfold m_laws_eqChangeS
  rw [eqb_true.2 rfl, Bool.not_true, cond_false, all_list (fun _ _ => true) false (fun n k => m_laws_eqChangeS_L8 N l l n k) l (fun k => k) N hl ?_ ?_, allIdx_all, List.all_eq_true.2 (fun _ _ => rfl)]
  · rfl
  · rintro n k rfl
    simp only [m_laws_eqChangeS_L8]
    rw [ltb_false.2 (by omega)]; rfl
  · intro n k h
    simp only [m_laws_eqChangeS_L8]
    have := ha _ (List.getElem_mem h)
    rw [ltb_true.2 (by omega), cond_true, List.getElem?_eq_getElem h, Option.bind_some, Option.bind_some]
    unfold m_laws_eqChange
    rw [eqb_true.2 rfl, e_eqStep_self (by omega)]
    rfl
theorem e_toChangeSE {N B : Nat} {l : List Change} (hl : l.length ≤ B) (hs : ∀ c ∈ l, smallS c.step B) (hB : B ≤ 4000000000) (hN : B < N) : m_laws_toChangeS N l = some l := by
  unfold m_laws_toChangeS
  rw [mkl_ok (by omega), Option.bind_some, copy_list (fun n s k => m_laws_toChangeS_L5 N l n s k) l _ (fun k s => (s, k)) N (by omega) (by simp) ?_ ?_]
  · rfl
  · rintro n s k rfl
    simp only [m_laws_toChangeS_L5]
    rw [ltb_false.2 (by omega)]; rfl
  · intro n s k h hs2
    simp only [m_laws_toChangeS_L5]
    rw [ltb_true.2 (by omega), cond_true, List.getElem?_eq_getElem h, Option.bind_some, e_toChange1 (hs _ (List.getElem_mem h)) (by omega) (by omega), Option.bind_some, List.getElem?_eq_getElem (by omega), Option.bind_some]
def wChE (c : Change) : Nat := wStep c.step
theorem e_szChangeSE {N : Nat} {l : List Change} {left : Int} (h : l.length ≤ 140737488351232 ∧ ∀ c ∈ l, szC c) (hN : 140737488351232 < N) (h0 : 0 ≤ left) (h1 : left ≤ 1048576) : m_laws_szChangeS N l left = some (gz (l.length + wsum wChE l) left) := by
  have hl := h.1
  unfold m_laws_szChangeS
  rw [gz_w64 h0 h1 (by omega), gz_b h0]
  by_cases hc : gz l.length left < 0
  · rw [ltb_true.2 hc, gz_one h0 hc]; rfl
  rw [ltb_false.2 (by omega), cond_false, ← gz_rest hc]
  rw [size_list (fun n s k => m_laws_szChangeS_L8 N l n s k) l wChE (fun k s => (s, k)) N (by omega) ?_ ?_ (gz l.length left) (by omega) (Int.le_trans (gz_le h0) h1), Option.bind_some, gz_two h0 hc]
  · split
    · rename_i h2; rw [gz_m1 h0 h2]; rfl
    · rfl
  · rintro n s k rfl
    simp only [m_laws_szChangeS_L8]
    rw [ltb_false.2 (by omega)]; rfl
  · intro n s k hk s0 s1
    simp only [m_laws_szChangeS_L8]
    rw [ltb_true.2 (by omega), cond_true, List.getElem?_eq_getElem hk, Option.bind_some, e_szChange1 (h.2 _ (List.getElem_mem hk)) hN s0 s1, Option.bind_some]
    rfl

/-- The law. -/
theorem p_FnExactFlowChanges (f : Flow) (l : List Change) (h1 : szF f) (h2 : l.length ≤ 140737488351232 ∧ ∀ c ∈ l, szC c) : ∃ N, m_laws_FnExactFlowChanges N f l = some true := by
  refine ⟨140737488351232 + 2, ?_⟩
  unfold m_laws_FnExactFlowChanges
  rw [e_szFlow (hugeF_of h1) (by omega) (by omega) (by omega), Option.bind_some]
  by_cases hc : gz (wFlow f) 1048576 < 0
  · rw [ltb_true.2 hc]; rfl
  rw [ltb_false.2 (by omega), cond_false]
  have c1 := gz_pos (Int.not_lt.1 hc)
  rw [e_szChangeSE h2 (by omega) (by omega) (by omega), Option.bind_some]
  by_cases hd : gz (l.length + wsum wChE l) (gz (wFlow f) 1048576) < 0
  · rw [ltb_true.2 hd]; rfl
  rw [ltb_false.2 (by omega), cond_false]
  have c2 := gz_pos (Int.not_lt.1 hd)
  have s1 : smallF f 1048576 := small_flow (by omega)
  have s2 : ∀ c ∈ l, smallS c.step 1048576 := fun c hcm => small_step (by
    have h9 : wStep c.step ≤ wsum wChE l := wsum_mem (w := wChE) hcm
    omega)
  have ll : l.length ≤ 1048576 := by omega
  have s3 : smallF (chAll f l).1 1048576 := small_up chAll_small2 (by omega)
  have l1 := s1.1; have l3 := s3.1
  have b1 := cFlow_bdD s1; have b3 := cFlow_bdD s3
  have b2 : wsum cChE l ≤ l.length * 1048579 := wsum_bdD fun c hcm => by
    have := (s2 c hcm).2.1
    unfold cChE
    omega
  have b4 : l.length * 1048579 ≤ 1048576 * 1048579 := Nat.mul_le_mul_right _ ll
  have ha : ∀ c ∈ l, c.step.after.length < 140737488351232 + 2 := fun c hcm => by have := (s2 c hcm).2.1; omega
  have t1 := e_toFlow (N := 140737488351232 + 2) s1 (by omega) (by omega)
  have t2 := e_toChangeSE (N := 140737488351232 + 2) ll s2 (by omega) (by omega)
  have fs := e_spec_FlowChanges (N := 140737488351232 + 2) s1 s2 (by omega) (by omega) (by omega) (by omega) (by omega)
  have fi := e_impl_FlowChanges (N := 140737488351232 + 2) s1 s2 (by omega) (by omega) (by omega) (by omega) (by omega)
  have q1 := e_eqFlow_self (N := 140737488351232 + 2) s1 (by omega)
  have q2 := e_eqChangeSE (N := 140737488351232 + 2) (l := l) (by omega) ha
  have q3 := e_eqFlow_self (N := 140737488351232 + 2) s3 (by omega)
  obtain ⟨k1, m1, a1, u1, v1⟩ := mk_Flow (N := 140737488351232 + 2) (f := f) (k := 1) (by omega) (by omega) (fun s hs => by have := (s1.2 s hs).2.1; omega) (by omega) (by omega)
  obtain ⟨k2, m2, a2, u2, v2⟩ := mk_ChangeSE (N := 140737488351232 + 2) (l := l) (k := k1) (by omega) (by omega) ha (by omega) (by omega)
  obtain ⟨k4, m4, a4, d4, u4, v4⟩ := mh_Flow (N := 140737488351232 + 2) (f := (chAll f l).1) (k := 1) (by omega) (by omega) (fun s hs => by have := (s3.2 s hs).2.1; omega) (by omega) (by omega)
  have n2 : ltb k2 0 = false := ltb_false.2 (by omega)
  have n4 : ltb k4 0 = false := ltb_false.2 (by omega)
  simp only [t1, t2, fs, fi, q1, q2, q3, a1, a2, a4, d4, n2, n4, eqb_same, Option.bind_some, Bool.not_true, cond_false, bne_self_eq_false, Ex.go]

end Go.Proofs.YtmnhnldnnniglaaGreat
