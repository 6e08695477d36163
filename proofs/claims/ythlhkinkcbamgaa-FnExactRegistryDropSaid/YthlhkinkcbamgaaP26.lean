/- All runs of a flow are moved. -/
import Derived.Test.YthlhkinkcbamgaaP20
set_option linter.all false
namespace Go.Proofs.Ythlhkinkcbamgaa

def goM (f g : Flow) : List Run → Nat → List Run × List Int
  | [], _ => ([], [])
  | r :: t, k => bif (fitRun f g r).2 then ((fitRun f g r).1 :: (goM f g t (k + 1)).1, (goM f g t (k + 1)).2) else ((goM f g t (k + 1)).1, ((k : Nat) : Int) :: (goM f g t (k + 1)).2)

theorem move_loop {R : Type} (f g : Flow) (l : List Run) (F : Nat → List Run → List Int → Nat → Option (Ex (List Run × List Int × Nat) R)) (N : Nat) (hN : l.length < N)
    (hn : ∀ n a b k, k = l.length → F (n + 1) a b k = some (.brk (a, b, k)))
    (hF : ∀ n a b k (h : k < l.length), a.length ≤ k → b.length ≤ k → F (n + 1) a b k = bif (fitRun f g l[k]).2 then F n (a ++ [(fitRun f g l[k]).1]) b (k + 1) else F n a (b ++ [((k : Nat) : Int)]) (k + 1)) :
    F N [] [] 0 = some (.brk ((goM f g l 0).1, (goM f g l 0).2, l.length)) := by
  have key : ∀ (t p : List Run) (n : Nat) (a : List Run) (b : List Int), l = p ++ t → t.length < n → a.length ≤ p.length → b.length ≤ p.length → F n a b p.length = some (.brk (a ++ (goM f g t p.length).1, b ++ (goM f g t p.length).2, l.length)) := by
    intro t
    induction t with
    | nil =>
      intro p n a b hl hn' ha hb
      obtain ⟨n, rfl⟩ : ∃ n', n = n' + 1 := ⟨n - 1, by omega⟩
      simp only [List.append_nil] at hl
      rw [hn n a b _ (by rw [hl]), hl]
      simp [goM]
    | cons r t ih =>
      intro p n a b hl hn' ha hb
      simp only [List.length_cons] at hn'
      obtain ⟨n, rfl⟩ : ∃ n', n = n' + 1 := ⟨n - 1, by omega⟩
      have hk : p.length < l.length := by rw [hl]; simp
      have hr : l[p.length] = r := by simp [hl]
      rw [hF n a b p.length hk ha hb, hr, goM]
      have hp : p.length + 1 = (p ++ [r]).length := by simp
      cases (fitRun f g r).2 with
      | true =>
        simp only [cond_true]
        rw [hp, ih (p ++ [r]) n _ _ (by simp [hl]) (by omega) (by simp; omega) (by simp; omega)]
        simp
      | false =>
        simp only [cond_false]
        rw [hp, ih (p ++ [r]) n _ _ (by simp [hl]) (by omega) (by simp; omega) (by simp; omega)]
        simp
  have := key l [] N [] [] rfl hN (Nat.le_refl _) (Nat.le_refl _)
  simpa using this

def moveAll (f g : Flow) (l : List Run) : List Run × List Int × Bool := bif flowOk f && (flowOk g && (leb ((l.length : Nat) : Int) 8 && l.all (runOk f))) then ((goM f g l 0).1, (goM f g l 0).2, true) else ([], [], false)
def smallRs (l : List Run) (B : Nat) : Prop := l.length ≤ B ∧ ∀ r ∈ l, r.done.length ≤ B

theorem ltb_leb8 {a : Int} : ltb 8 a = !leb a 8 := by by_cases h : 8 < a <;> simp [ltb_dec, leb_dec, h] <;> omega

theorem e_impl_MoveAll {N B : Nat} {f g : Flow} {l : List Run} (hf : smallF f B) (hg : smallF g B) (hl : smallRs l B) (hB : B ≤ 4000000000 - 1) (hN : B < N) : m_impl_MoveAll N f g l = some (moveAll f g l) := by
  have h0 := hl.1
  unfold m_impl_MoveAll moveAll
  rw [e_impl_FlowValid hf hB hN, Option.bind_some, e_impl_FlowValid hg hB hN]
  cases flowOk f with
  | false => rfl
  | true =>
    cases flowOk g with
    | false => rfl
    | true =>
      simp only [Bool.not_true, cond_false, Option.bind_some, Bool.true_and]
      rw [ltb_leb8]
      cases leb ((l.length : Nat) : Int) 8 with
      | false => rfl
      | true =>
        simp only [Bool.not_true, cond_false, Bool.true_and]
        have hc : m_slices_ContainsFunc_Run N l (fun x0 => m_impl_MoveAll_f1 N x0 f) = some (!l.all (runOk f)) := by
          unfold m_slices_ContainsFunc_Run m_slices_IndexFunc_Run
          rw [find_list (fun r => !runOk f r) (fun k => (k : Int)) (fun n k => m_slices_IndexFunc_Run_L4 N l (fun x0 => m_impl_MoveAll_f1 N x0 f) n k) l (fun k => k) N (by omega) ?_ ?_, Option.bind_some]
          · cases h : l.findIdx? (fun r => !runOk f r) with
            | none =>
              have : l.all (runOk f) = true := List.all_eq_true.2 fun x hx => by
                have := List.findIdx?_eq_none_iff.1 h x hx
                simpa using this
              rw [this]
              simp only [Ex.go, Option.bind_some]
              rw [leb_false.2 (by omega)]; rfl
            | some i =>
              obtain ⟨hi, h1, _⟩ := List.findIdx?_eq_some_iff_getElem.1 h
              have : l.all (runOk f) = false := by
                rw [Bool.eq_false_iff]
                intro h2
                have := List.all_eq_true.1 h2 _ (List.getElem_mem hi)
                rw [this] at h1; cases h1
              rw [this]
              simp only [Ex.go, Option.bind_some]
              rw [leb_true.2 (by omega)]; rfl
          · rintro n k rfl
            simp only [m_slices_IndexFunc_Run_L4]
            rw [ltb_false.2 (by omega)]; rfl
          · intro n k h
            simp only [m_slices_IndexFunc_Run_L4, m_impl_MoveAll_f1]
            rw [ltb_true.2 (by omega), cond_true, List.getElem?_eq_getElem h, Option.bind_some, e_impl_RunValid hf (hl.2 _ (List.getElem_mem h)) hB hN, Option.bind_some, Option.bind_some]
        rw [hc]
        cases l.all (runOk f) with
        | false => rfl
        | true =>
          simp only [Bool.not_true, cond_false, cond_true, Option.bind_some]
          rw [move_loop f g l (fun n a b k => m_impl_MoveAll_L12 N f g l n a b k) N (by omega) ?_ ?_]
          · rfl
          · rintro n a b k rfl
            simp only [m_impl_MoveAll_L12]
            rw [ltb_false.2 (by omega)]; rfl
          · intro n a b k h ha hb
            simp only [m_impl_MoveAll_L12]
            rw [ltb_true.2 (by omega), cond_true, List.getElem?_eq_getElem h, Option.bind_some, e_impl_FitRun hf hg (hl.2 _ (List.getElem_mem h)) hB hN, Option.bind_some, appd_ok (by simp; omega), appd_ok (by simp; omega)]
            rfl

theorem e_spec_MoveAll {N B : Nat} {f g : Flow} {l : List Run} (hf : smallF f B) (hg : smallF g B) (hl : smallRs l B) (hB : B ≤ 4000000000 - 1) (hN : B < N) : m_spec_MoveAll N f g l = some (moveAll f g l) := by
  have h0 := hl.1
  unfold m_spec_MoveAll moveAll
  rw [e_spec_FlowValid hf hB hN, Option.bind_some, e_spec_FlowValid hg hB hN]
  cases flowOk f with
  | false => rfl
  | true =>
    cases flowOk g with
    | false => rfl
    | true =>
      simp only [Bool.not_true, cond_false, Option.bind_some, Bool.true_and]
      rw [ltb_leb8]
      cases leb ((l.length : Nat) : Int) 8 with
      | false => rfl
      | true =>
        simp only [Bool.not_true, cond_false, Bool.true_and]
        have step : ∀ n a b k (h : k < l.length), a.length ≤ k → b.length ≤ k → m_spec_MoveAll_L13 N f g l (n + 1) a b k = bif runOk f l[k] then (bif (fitRun f g l[k]).2 then m_spec_MoveAll_L13 N f g l n (a ++ [(fitRun f g l[k]).1]) b (k + 1) else m_spec_MoveAll_L13 N f g l n a (b ++ [((k : Nat) : Int)]) (k + 1)) else some (.ret (([] : List Run), ([] : List Int), false)) := by
          intro n a b k h ha hb
          simp only [m_spec_MoveAll_L13]
          rw [ltb_true.2 (by omega), cond_true, List.getElem?_eq_getElem h, Option.bind_some, e_spec_RunValid hf (hl.2 _ (List.getElem_mem h)) hB hN, Option.bind_some, Option.bind_some, e_spec_FitRun hf hg (hl.2 _ (List.getElem_mem h)) hB hN]
          have e1 : appd a [(fitRun f g l[k]).1] = some (a ++ [(fitRun f g l[k]).1]) := appd_ok (by simp; omega)
          have e2 : appd b [((k : Nat) : Int)] = some (b ++ [((k : Nat) : Int)]) := appd_ok (by simp; omega)
          cases runOk f l[k] with
          | false => rfl
          | true =>
            simp only [Bool.not_true, cond_false, cond_true, Option.bind_some, Ex.go, e1, e2]
        cases ha : l.all (runOk f) with
        | true =>
          simp only [cond_true]
          rw [move_loop f g l (fun n a b k => m_spec_MoveAll_L13 N f g l n a b k) N (by omega) ?_ ?_]
          · rfl
          · rintro n a b k rfl
            simp only [m_spec_MoveAll_L13]
            rw [ltb_false.2 (by omega)]; rfl
          · intro n a b k h h1 h2
            rw [step n a b k h h1 h2, List.all_eq_true.1 ha _ (List.getElem_mem h)]; rfl
        | false =>
          have key : ∀ (t p : List Run) (n : Nat) (a : List Run) (b : List Int), l = p ++ t → t.length < n → a.length ≤ p.length → b.length ≤ p.length → t.all (runOk f) = false → m_spec_MoveAll_L13 N f g l n a b p.length = some (.ret (([] : List Run), ([] : List Int), false)) := by
            intro t
            induction t with
            | nil => intro p n a b _ _ _ _ h; cases h
            | cons r t ih =>
              intro p n a b hlt hn' h1 h2 h3
              simp only [List.length_cons] at hn'
              obtain ⟨n, rfl⟩ : ∃ n', n = n' + 1 := ⟨n - 1, by omega⟩
              have hk : p.length < l.length := by rw [hlt]; simp
              have hr : l[p.length] = r := by simp [hlt]
              have hp : p.length + 1 = (p ++ [r]).length := by simp
              rw [step n a b p.length hk h1 h2, hr]
              cases hv : runOk f r with
              | false => rfl
              | true =>
                rw [List.all_cons, hv, Bool.true_and] at h3
                cases (fitRun f g r).2 with
                | true =>
                  simp only [cond_true]
                  rw [hp]
                  exact ih (p ++ [r]) n _ _ (by simp [hlt]) (by omega) (by simp; omega) (by simp; omega) h3
                | false =>
                  simp only [cond_true, cond_false]
                  rw [hp]
                  exact ih (p ++ [r]) n _ _ (by simp [hlt]) (by omega) (by simp; omega) (by simp; omega) h3
          have := key l [] N [] [] rfl (by omega) (Nat.le_refl _) (Nat.le_refl _) ha
          simp only [List.length_nil] at this
          rw [this]; rfl

/-! ## What is moved and what stays -/

theorem goM_valid {f g : Flow} : ∀ (t : List Run) (k : Nat), ∀ x ∈ (goM f g t k).1, runOk g x = true
  | [], k, x, hx => by cases hx
  | r :: t, k, x, hx => by
    rw [goM] at hx
    cases h : (fitRun f g r).2 with
    | true =>
      rw [h] at hx
      rcases List.mem_cons.1 hx with e | hx
      · rw [e]; exact fit_ok h
      · exact goM_valid t (k + 1) x hx
    | false => rw [h] at hx; exact goM_valid t (k + 1) x hx
theorem goM_done {f g : Flow} {B : Nat} : ∀ (t : List Run) (k : Nat), (∀ r ∈ t, r.done.length ≤ B) → ∀ x ∈ (goM f g t k).1, x.done.length ≤ B
  | [], k, _, x, hx => by cases hx
  | r :: t, k, hb, x, hx => by
    rw [goM] at hx
    cases h : (fitRun f g r).2 with
    | true =>
      rw [h] at hx
      rcases List.mem_cons.1 hx with e | hx
      · rw [e]; exact fit_len (hb r (by simp))
      · exact goM_done t (k + 1) (fun r hr => hb r (by simp [hr])) x hx
    | false => rw [h] at hx; exact goM_done t (k + 1) (fun r hr => hb r (by simp [hr])) x hx
theorem goM_len {f g : Flow} : ∀ (t : List Run) (k : Nat), (goM f g t k).1.length + (goM f g t k).2.length = t.length
  | [], k => rfl
  | r :: t, k => by
    have := goM_len (f := f) (g := g) t (k + 1)
    rw [goM]
    cases (fitRun f g r).2 <;> simp <;> omega
theorem goM_stay {f g : Flow} : ∀ (t : List Run) (k : Nat), ∀ y ∈ (goM f g t k).2, ∃ i, ∃ h : i < t.length, y = ((k + i : Nat) : Int) ∧ (fitRun f g t[i]).2 = false
  | [], k, y, hy => by cases hy
  | r :: t, k, y, hy => by
    rw [goM] at hy
    cases h : (fitRun f g r).2 with
    | true =>
      rw [h] at hy
      obtain ⟨i, hi, h1, h2⟩ := goM_stay t (k + 1) y hy
      exact ⟨i + 1, by simpa using hi, by rw [h1]; congr 1; omega, by simpa using h2⟩
    | false =>
      rw [h] at hy
      rcases List.mem_cons.1 hy with e | hy
      · exact ⟨0, by simp, by simpa using e, by simpa using h⟩
      · obtain ⟨i, hi, h1, h2⟩ := goM_stay t (k + 1) y hy
        exact ⟨i + 1, by simpa using hi, by rw [h1]; congr 1; omega, by simpa using h2⟩
theorem goM_asc {f g : Flow} : ∀ (t : List Run) (k : Nat), (goM f g t k).2.Pairwise fun a b => a < b
  | [], k => List.Pairwise.nil
  | r :: t, k => by
    rw [goM]
    cases (fitRun f g r).2 with
    | true => exact goM_asc t (k + 1)
    | false =>
      refine List.Pairwise.cons (fun y hy => ?_) (goM_asc t (k + 1))
      obtain ⟨i, _, h1, _⟩ := goM_stay t (k + 1) y hy
      rw [h1]
      omega
theorem goM_self {f : Flow} : ∀ (t : List Run) (k : Nat), t.all (runOk f) = true → goM f f t k = (t, [])
  | [], k, _ => rfl
  | r :: t, k, h => by
    rw [List.all_cons, Bool.and_eq_true] at h
    rw [goM, fit_self h.1, goM_self t (k + 1) h.2]; rfl

theorem move_true {f g : Flow} {l : List Run} (h : (moveAll f g l).2.2 = true) : flowOk f = true ∧ leb ((l.length : Nat) : Int) 8 = true ∧ l.all (runOk f) = true ∧ moveAll f g l = ((goM f g l 0).1, (goM f g l 0).2, true) := by
  unfold moveAll at h ⊢
  cases h1 : flowOk f with
  | false => rw [h1] at h; cases h
  | true =>
    cases h2 : flowOk g with
    | false => rw [h1, h2] at h; cases h
    | true =>
      cases h3 : leb ((l.length : Nat) : Int) 8 with
      | false => rw [h1, h2, h3] at h; cases h
      | true =>
        cases h4 : l.all (runOk f) with
        | false => rw [h1, h2, h3, h4] at h; cases h
        | true => exact ⟨rfl, rfl, rfl, rfl⟩
theorem move_small {f g : Flow} {l : List Run} {B : Nat} (hl : smallRs l B) : smallRs (moveAll f g l).1 B ∧ (moveAll f g l).2.1.length ≤ B := by
  have h0 := hl.1
  have h1 := goM_len (f := f) (g := g) l 0
  unfold moveAll
  cases flowOk f && (flowOk g && (leb ((l.length : Nat) : Int) 8 && l.all (runOk f))) with
  | false => exact ⟨⟨by simp, by simp⟩, by simp⟩
  | true => exact ⟨⟨by simp only [cond_true]; omega, goM_done l 0 hl.2⟩, by simp only [cond_true]; omega⟩
end Go.Proofs.Ythlhkinkcbamgaa
