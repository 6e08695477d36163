/- Drawn flows and registries are small. -/
import Derived.Test.YtmnhnldnnniglaaP5
set_option linter.all false
namespace Go.Proofs.Ytmnhnldnnniglaa

theorem pick_two {N : Nat} {cd : List UInt8} {p : Nat} {m : Int} (hp : p ≤ 1000000000) {α : Type} (f : Int × Nat → Option α) : (m_spec_l6Rd_pick N cd p m).bind f = f (((pickv cd p m : Nat) : Int), p + 1) := by rw [pick_ok hp]; rfl

theorem d_L22 {N : Nat} {cd : List UInt8} {l : List Step} (hl : ∀ s ∈ l, s.name.size ≤ 8) : ∀ (m n p k : Nat) (a : List Str), l.length - k = m → k ≤ l.length → m < n → p + m ≤ 1000000000 → a.length ≤ 4 → (∀ x ∈ a, x.size ≤ 8) →
    ∃ p' a' k', m_spec_l91Flow_L22 N cd l n p a k = some (.brk (p', a', k')) ∧ p' ≤ p + m ∧ a'.length ≤ 4 ∧ ∀ x ∈ a', x.size ≤ 8
  | 0, n, p, k, a, hm, hk, hn, hp, ha, hs => by
    obtain ⟨n, rfl⟩ : ∃ n', n = n' + 1 := ⟨n - 1, by omega⟩
    refine ⟨p, a, k, ?_, by omega, ha, hs⟩
    simp only [m_spec_l91Flow_L22]
    rw [ltb_false.2 (by omega)]; rfl
  | m + 1, n, p, k, a, hm, hk, hn, hp, ha, hs => by
    obtain ⟨n, rfl⟩ : ∃ n', n = n' + 1 := ⟨n - 1, by omega⟩
    have hkl : k < l.length := by omega
    simp only [m_spec_l91Flow_L22]
    rw [ltb_true.2 (by omega), cond_true, pick_two (by omega)]
    simp only
    have more := d_L22 (N := N) (cd := cd) hl m n (p + 1) (k + 1) a (by omega) (by omega) (by omega) (by omega) ha hs
    cases eqb ((pickv cd p 3 : Nat) : Int) 0 with
    | false =>
      obtain ⟨p', a', k', h1, h2, h3, h4⟩ := more
      exact ⟨p', a', k', h1, by omega, h3, h4⟩
    | true =>
      by_cases hlt : a.length < 4
      · rw [cond_true, ltb_true.2 (by omega), cond_true, List.getElem?_eq_getElem hkl, Option.bind_some, appd_ok (by simp; omega), Option.bind_some]
        obtain ⟨p', a', k', h1, h2, h3, h4⟩ := d_L22 (N := N) (cd := cd) hl m n (p + 1) (k + 1) (a ++ [l[k].name]) (by omega) (by omega) (by omega) (by omega) (by simp; omega) (fun x hx => by
          rcases List.mem_append.1 hx with h | h
          · exact hs x h
          · rw [List.mem_singleton.1 h]; exact hl _ (List.getElem_mem hkl))
        exact ⟨p', a', k', h1, by omega, h3, h4⟩
      · rw [cond_true, ltb_false.2 (by omega), cond_false]
        obtain ⟨p', a', k', h1, h2, h3, h4⟩ := more
        exact ⟨p', a', k', h1, by omega, h3, h4⟩

theorem d_L12 {N : Nat} {cd : List UInt8} (hN : 10 < N) : ∀ (m n p k : Nat) (l : List Step), 6 - k = m → k ≤ 6 → m < n → p + 20 * m ≤ 1000000000 → l.length ≤ k → (0 < k → 0 < l.length) → (∀ s ∈ l, smallS s 8) →
    ∃ p' l' k', m_spec_l91Flow_L12 N cd n p l k = some (.brk (p', l', k')) ∧ p' ≤ p + 20 * m ∧ l'.length ≤ 6 ∧ 0 < l'.length ∧ ∀ s ∈ l', smallS s 8
  | 0, n, p, k, l, hm, hk, hn, hp, hl, h0, hs => by
    obtain ⟨n, rfl⟩ : ∃ n', n = n' + 1 := ⟨n - 1, by omega⟩
    refine ⟨p, l, k, ?_, by omega, by omega, h0 (by omega), hs⟩
    simp only [m_spec_l91Flow_L12]
    rw [ltb_false.2 (by omega)]; rfl
  | m + 1, n, p, k, l, hm, hk, hn, hp, hl, h0, hs => by
    obtain ⟨n, rfl⟩ : ∃ n', n = n' + 1 := ⟨n - 1, by omega⟩
    simp only [m_spec_l91Flow_L12]
    rw [ltb_true.2 (by omega), cond_true, pick_two (by omega)]
    simp only
    obtain ⟨b, hb, hb0⟩ : ∃ b, ((bif ltb 0 ((pickv cd p 3 : Nat) : Int) then some (p + 1, true) else some (p + 1, eqb ((k : Nat) : Int) 0)) : Option (Nat × Bool)) = some (p + 1, b) ∧ (k = 0 → b = true) := by
      cases ltb 0 ((pickv cd p 3 : Nat) : Int) with
      | true => exact ⟨true, rfl, fun _ => rfl⟩
      | false => exact ⟨_, rfl, fun h => eqb_true.2 (by omega)⟩
    rw [hb, Option.bind_some]
    simp only
    cases b with
    | false =>
      simp only [cond_false]
      obtain ⟨p', l', k', h1, h2, h3, h4, h5⟩ := d_L12 (N := N) (cd := cd) hN m n (p + 1) (k + 1) l (by omega) (by omega) (by omega) (by omega) (by omega) (fun _ => h0 (by
        rcases Nat.eq_zero_or_pos k with h | h
        · cases hb0 h
        · exact h)) hs
      exact ⟨p', l', k', h1, by omega, h3, h4, h5⟩
    | true =>
      simp only [cond_true]
      have hy : ∃ y : Str, ([(⟨#[97]⟩ : Str), (⟨#[98]⟩ : Str), (⟨#[99]⟩ : Str), (⟨#[100]⟩ : Str), (⟨#[101]⟩ : Str), (⟨#[102]⟩ : Str)] : List Str)[k]? = some y ∧ y.size ≤ 8 := by
        rcases (by omega : k = 0 ∨ k = 1 ∨ k = 2 ∨ k = 3 ∨ k = 4 ∨ k = 5) with rfl | rfl | rfl | rfl | rfl | rfl <;> exact ⟨_, rfl, by decide⟩
      obtain ⟨y, hy1, hy2⟩ := hy
      rw [hy1, Option.bind_some, pick_two (by omega), Option.bind_some]
      simp only
      obtain ⟨p2, a2, k2, g1, g2, g3, g4⟩ := d_L22 (N := N) (cd := cd) (fun s h => (hs s h).1) l.length N (p + 1 + 1) 0 [] (by omega) (by omega) (by omega) (by omega) (by simp) (by simp)
      rw [g1, Option.bind_some]
      simp only [Ex.go]
      rw [appd_ok (by simp; omega), Option.bind_some]
      obtain ⟨p', l', k', h1, h2, h3, h4, h5⟩ := d_L12 (N := N) (cd := cd) hN m n p2 (k + 1) (l ++ [⟨y, a2, ltb 0 ((pickv cd (p + 1) 3 : Nat) : Int)⟩]) (by omega) (by omega) (by omega) (by omega) (by simp; omega) (fun _ => by simp) (fun s h => by
        rcases List.mem_append.1 h with h | h
        · exact hs s h
        · rw [List.mem_singleton.1 h]; exact ⟨hy2, by simp only; omega, g4⟩)
      exact ⟨p', l', k', h1, by omega, h3, h4, h5⟩

theorem e_l91Flow {N : Nat} {cd : List UInt8} {p : Nat} (hN : 10 < N) (hp : p + 200 ≤ 1000000000) : ∃ f p', m_spec_l91Flow N cd p = some (f, p') ∧ p' ≤ p + 200 ∧ smallF f 8 := by
  unfold m_spec_l91Flow
  rw [pick_two (by omega)]
  obtain ⟨q, l, k, h1, h2, h3, h4, h5⟩ := d_L12 (N := N) (cd := cd) hN 6 N (p + 1) 0 [] rfl (by omega) (by omega) (by omega) (by simp) (by omega) (by simp)
  simp only
  rw [h1, Option.bind_some]
  simp only [Ex.go]
  rw [pick_two (by omega)]
  simp only
  have small : ∀ s ∈ l, smallS s 8 := h5
  cases eqb ((pickv cd q 40 : Nat) : Int) 0 with
  | true =>
    simp only [cond_true]
    rw [pick_two (by omega)]
    simp only
    have hv := pickv_lt (cd := cd) (p := q + 1) (m := 3) (by omega)
    rw [geti_nat, List.getElem?_eq_getElem (by simp; omega), Option.bind_some]
    exact ⟨_, _, rfl, by omega, by simp only; omega, small⟩
  | false =>
    simp only [cond_false]
    cases eqb ((pickv cd q 40 : Nat) : Int) 1 with
    | true =>
      simp only [cond_true]
      rw [show ((l.length : Nat) : Int) - 1 = ((l.length - 1 : Nat) : Int) by omega, geti_nat, List.getElem?_eq_getElem (by omega), Option.bind_some, List.getElem?_eq_getElem h4, Option.bind_some]
      refine ⟨_, _, rfl, by omega, by simp; omega, fun s hs => ?_⟩
      rcases List.mem_or_eq_of_mem_set hs with h | h
      · exact small s h
      · rw [h]
        exact ⟨(small _ (List.getElem_mem h4)).1, by simp, fun x hx => by rw [List.mem_singleton.1 hx]; exact (small _ (List.getElem_mem _)).1⟩
    | false =>
      simp only [cond_false]
      cases eqb ((pickv cd q 40 : Nat) : Int) 2 with
      | true =>
        simp only [cond_true]
        rw [List.getElem?_eq_getElem h4, Option.bind_some]
        refine ⟨_, _, rfl, by omega, by simp; omega, fun s hs => ?_⟩
        rcases List.mem_or_eq_of_mem_set hs with h | h
        · exact small s h
        · rw [h]
          exact ⟨(small _ (List.getElem_mem h4)).1, by simp, fun x hx => by rw [List.mem_singleton.1 hx]; decide⟩
      | false => exact ⟨_, _, rfl, by omega, by simp only; omega, small⟩

/-! ## Flows compared, copied -/

theorem e_sameTexts {N : Nat} {l m : List Str} (hN : l.length < N) : m_laws_sameTexts N l m = some (decide (l = m)) := by
  unfold m_laws_sameTexts
  by_cases hl : l.length = m.length
  · rw [eqb_true.2 (by omega), Bool.not_true, cond_false]
    have k := same_list seq (fun _ _ => seq_iff) (fun n k => m_laws_sameTexts_L8 N l m n k) l m (fun k => k) N hN hl ?_ ?_
    · by_cases h : l = m
      · rw [k.1 h, decide_eq_true h]; rfl
      · rw [k.2 h, decide_eq_false h]; rfl
    · rintro n k rfl
      simp only [m_laws_sameTexts_L8]
      rw [ltb_false.2 (by omega)]; rfl
    · intro n k h h2
      simp only [m_laws_sameTexts_L8]
      rw [ltb_true.2 (by omega), cond_true, List.getElem?_eq_getElem h, Option.bind_some, List.getElem?_eq_getElem h2, Option.bind_some]
  · rw [eqb_false.2 (by omega), decide_eq_false (fun h => hl (by rw [h]))]; rfl
def stepEqB (a b : Step) : Bool := seq a.name b.name && ((a.undo == b.undo) && decide (a.after = b.after))
theorem stepEqB_true (a b : Step) : stepEqB a b = true ↔ a = b := by
  unfold stepEqB
  rw [Bool.and_eq_true, Bool.and_eq_true, seq_iff, beq_iff_eq, decide_eq_true_eq]
  cases a; cases b
  simp only [Step.mk.injEq]
  exact ⟨fun ⟨a, b, c⟩ => ⟨a, c, b⟩, fun ⟨a, b, c⟩ => ⟨a, c, b⟩⟩
theorem e_sameStep {N : Nat} {a b : Step} (hN : a.after.length < N) : m_laws_sameStep N a b = some (stepEqB a b) := by
  unfold m_laws_sameStep stepEqB
  rw [e_sameTexts hN]
  cases seq a.name b.name <;> cases (a.undo == b.undo) <;> rfl
def stepsEq (l m : List Step) : Bool := decide (l.length = m.length) && allIdx (fun k s => match m[k]? with | some t => stepEqB s t | none => false) 0 l
theorem stepsEq_true {l m : List Step} : stepsEq l m = true ↔ l = m := by
  unfold stepsEq
  rw [Bool.and_eq_true, decide_eq_true_eq, allIdx_true]
  constructor
  · rintro ⟨h1, h2⟩
    refine List.ext_getElem h1 fun i h3 h4 => ?_
    have := h2 i h3
    simp only [Nat.zero_add] at this
    rw [List.getElem?_eq_getElem h4] at this
    exact (stepEqB_true _ _).1 this
  · rintro rfl
    refine ⟨rfl, fun i h => ?_⟩
    simp only [Nat.zero_add]
    rw [List.getElem?_eq_getElem h]
    exact (stepEqB_true _ _).2 rfl
theorem e_sameSteps {N : Nat} {l m : List Step} (hN : l.length < N) (ha : ∀ s ∈ l, s.after.length < N) : m_laws_sameSteps N l m = some (stepsEq l m) := by
  unfold m_laws_sameSteps stepsEq
  by_cases hl : l.length = m.length
  · rw [eqb_true.2 (by omega), Bool.not_true, cond_false, decide_eq_true hl, all_list (fun k s => match m[k]? with | some t => stepEqB s t | none => false) false (fun n k => m_laws_sameSteps_L8 N l m n k) l (fun k => k) N hN ?_ ?_]
    · cases allIdx (fun k s => match m[k]? with | some t => stepEqB s t | none => false) 0 l <;> rfl
    · rintro n k rfl
      simp only [m_laws_sameSteps_L8]
      rw [ltb_false.2 (by omega)]; rfl
    · intro n k h
      simp only [m_laws_sameSteps_L8]
      rw [ltb_true.2 (by omega), cond_true, List.getElem?_eq_getElem h, Option.bind_some, List.getElem?_eq_getElem (by omega), Option.bind_some, e_sameStep (ha _ (List.getElem_mem h)), Option.bind_some]
      simp only
      cases stepEqB l[k] (m[k]'(by omega)) <;> rfl
  · rw [eqb_false.2 (by omega), decide_eq_false hl]; rfl
def flowEq (f g : Flow) : Bool := eqb f.ver g.ver && stepsEq f.steps g.steps
theorem flowEq_true {f g : Flow} : flowEq f g = true ↔ f = g := by
  unfold flowEq
  rw [Bool.and_eq_true, eqb_true, stepsEq_true]
  cases f; cases g
  simp
theorem e_sameFlow {N B : Nat} {f g : Flow} (hf : smallF f B) (hN : B < N) : m_laws_sameFlow N f g = some (flowEq f g) := by
  unfold m_laws_sameFlow flowEq
  have := hf.1
  rw [e_sameSteps (by omega) (fun s hs => by have := (hf.2 s hs).2.1; omega)]
  cases eqb f.ver g.ver <;> rfl

theorem copy_fold {N B : Nat} {f : Flow} (hf : smallF f B) (hB : B ≤ 1999999999) : ∀ s ∈ f.steps, s.after.length ≤ 4000000000 := fun s hs => by have := (hf.2 s hs).2.1; omega
theorem e_Flow_clone {N B : Nat} {f : Flow} (hf : smallF f B) (hB : B ≤ 1999999999) (hN : B < N) : m_impl_Flow_clone N f = some f := by
  have hl := hf.1
  unfold m_impl_Flow_clone
  rw [pick_list (fun _ : Step => true) (fun s => s) (fun n s k => m_impl_Flow_clone_L6 N f n s k) f.steps (fun k s => (s, k)) N (by omega) ?_ ?_, Option.bind_some]
  · rw [List.filter_eq_self.2 (fun _ _ => rfl)]; simp [Ex.go]
  · rintro n s k rfl
    simp only [m_impl_Flow_clone_L6]
    rw [ltb_false.2 (by omega)]; rfl
  · intro n s k h hs
    simp only [m_impl_Flow_clone_L6]
    unfold m_impl_Step_clone m_impl_cloneNames
    have := (hf.2 _ (List.getElem_mem h)).2.1
    rw [ltb_true.2 (by omega), cond_true, List.getElem?_eq_getElem h, Option.bind_some, appd_ok (by simp; omega), Option.bind_some, Option.bind_some, Option.bind_some, appd_ok (by simp; omega)]; rfl
theorem e_l2Copy {N B : Nat} {f : Flow} (hf : smallF f B) (hB : B ≤ 1999999999) (hN : B < N) : m_spec_l2Copy N f = some f := by
  have hl := hf.1
  unfold m_spec_l2Copy
  rw [pick_list (fun _ : Step => true) (fun s => s) (fun n s k => m_spec_l2Copy_L6 N f n s k) f.steps (fun k s => (s, k)) N (by omega) ?_ ?_, Option.bind_some]
  · rw [List.filter_eq_self.2 (fun _ _ => rfl)]; simp [Ex.go]
  · rintro n s k rfl
    simp only [m_spec_l2Copy_L6]
    rw [ltb_false.2 (by omega)]; rfl
  · intro n s k h hs
    simp only [m_spec_l2Copy_L6]
    unfold m_spec_l2Step
    have := (hf.2 _ (List.getElem_mem h)).2.1
    rw [ltb_true.2 (by omega), cond_true, List.getElem?_eq_getElem h, Option.bind_some, appd_ok (by simp; omega), Option.bind_some, Option.bind_some, appd_ok (by simp; omega)]; rfl

/-! ## Found in a registry -/

def verAt (l : List Flow) (v : Int) : Int := match l.findIdx? (fun f => eqb f.ver v) with | some i => (i : Int) | none => -1
theorem verAt_cases (l : List Flow) (v : Int) : verAt l v = -1 ∨ ∃ (i : Nat) (h : i < l.length), verAt l v = i ∧ l[i].ver = v := by
  unfold verAt
  cases h : l.findIdx? (fun f => eqb f.ver v) with
  | none => exact .inl rfl
  | some i =>
    obtain ⟨hi, h1, _⟩ := List.findIdx?_eq_some_iff_getElem.1 h
    exact .inr ⟨i, hi, rfl, eqb_true.1 h1⟩
def regFind (l : List Flow) (v : Int) : Flow × Bool := bif regOk l then (bif ltb (verAt l v) 0 then (⟨0, []⟩, false) else match l[(verAt l v).toNat]? with | some f => (f, true) | none => (⟨0, []⟩, false)) else (⟨0, []⟩, false)
end Go.Proofs.Ytmnhnldnnniglaa
