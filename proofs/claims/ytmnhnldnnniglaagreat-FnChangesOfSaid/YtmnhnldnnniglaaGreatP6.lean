/- The exact laws about registries, same flows and what does not fit, in plain words. -/
import Derived.Test.YtmnhnldnnniglaaGreatP5
import Derived.Test.YtmnhnldnnniglaaGreatO
set_option linter.all false
namespace Go.Proofs.YtmnhnldnnniglaaGreat

theorem e_Equal_string {N : Nat} {l m : List Str} (hN : l.length < N) : m_slices_Equal_string N l m = some (decide (l = m)) := by
  unfold m_slices_Equal_string
  by_cases hl : l.length = m.length
  · rw [eqb_true.2 (by omega), Bool.not_true, cond_false]
    have k := same_list seq (fun _ _ => seq_iff) (fun n k => m_slices_Equal_string_L8 N l m n k) l m (fun k => k) N hN hl ?_ ?_
    · by_cases h : l = m
      · rw [k.1 h, decide_eq_true h]; rfl
      · rw [k.2 h, decide_eq_false h]; rfl
    · rintro n k rfl
      simp only [m_slices_Equal_string_L8]
      rw [ltb_false.2 (by omega)]; rfl
    · intro n k h h2
      simp only [m_slices_Equal_string_L8]
      rw [ltb_true.2 (by omega), cond_true, List.getElem?_eq_getElem h, Option.bind_some, List.getElem?_eq_getElem h2, Option.bind_some]
  · rw [eqb_false.2 (by omega), decide_eq_false (fun h => hl (by rw [h]))]; rfl

def stepEq (a b : Step) : Bool := seq a.name b.name && ((a.undo == b.undo) && decide (a.after = b.after))
theorem stepEq_true (a b : Step) : stepEq a b = true ↔ a = b := by
  unfold stepEq
  rw [Bool.and_eq_true, Bool.and_eq_true, seq_iff, beq_iff_eq, decide_eq_true_eq]
  cases a; cases b
  simp only [Step.mk.injEq]
  exact ⟨fun ⟨a, b, c⟩ => ⟨a, c, b⟩, fun ⟨a, b, c⟩ => ⟨a, c, b⟩⟩
theorem e_Step_same {N : Nat} {a b : Step} (hN : a.after.length < N) : m_impl_Step_same N a b = some (stepEq a b) := by
  unfold m_impl_Step_same stepEq
  rw [e_Equal_string hN]
  cases seq a.name b.name <;> cases (a.undo == b.undo) <;> rfl
theorem e_l12Same {N : Nat} {a b : Step} (hN : a.after.length < N) : m_spec_l12Same N a b = some (stepEq a b) := by
  unfold m_spec_l12Same stepEq
  have key : (bif !(eqb ((a.after.length : Nat) : Int) ((b.after.length : Nat) : Int)) then some false else (m_spec_l12Same_L10 N a b N 0).bind fun e10 => e10.go (fun r => r) fun b10 => some true) = some (decide (a.after = b.after)) := by
    by_cases hl : a.after.length = b.after.length
    · rw [eqb_true.2 (by omega), Bool.not_true, cond_false]
      have k := same_list seq (fun _ _ => seq_iff) (fun n k => m_spec_l12Same_L10 N a b n k) a.after b.after (fun k => k) N hN hl ?_ ?_
      · by_cases h : a.after = b.after
        · rw [k.1 h, decide_eq_true h]; rfl
        · rw [k.2 h, decide_eq_false h]; rfl
      · rintro n k rfl
        simp only [m_spec_l12Same_L10]
        rw [ltb_false.2 (by omega)]; rfl
      · intro n k h h2
        simp only [m_spec_l12Same_L10]
        rw [ltb_true.2 (by omega), cond_true, List.getElem?_eq_getElem h, Option.bind_some, List.getElem?_eq_getElem h2, Option.bind_some]
    · rw [eqb_false.2 (by omega), decide_eq_false (fun h => hl (by rw [h]))]; rfl
  rw [key]
  cases seq a.name b.name <;> cases a.undo <;> cases b.undo <;> rfl

/-- Whether two fine flows have the same steps. -/
def sameF (f g : Flow) : Bool := flowOk f && (flowOk g && (eqb (f.steps.length : Nat) (g.steps.length : Nat) && allIdx (fun k s => match g.steps[k]? with | some t => stepEq s t | none => false) 0 f.steps))

theorem e_impl_FlowsSame {N B : Nat} {f g : Flow} (hf : smallF f B) (hg : smallF g B) (hB : B ≤ 4000000000 - 1) (hN : B < N) : m_impl_FlowsSame N f g = some (sameF f g) := by
  have hl := hf.1
  unfold m_impl_FlowsSame sameF
  rw [e_impl_FlowValid hf hB hN, Option.bind_some, e_impl_FlowValid hg hB hN]
  cases flowOk f with
  | false => rfl
  | true =>
    cases flowOk g with
    | false => rfl
    | true =>
      simp only [cond_true, Option.bind_some, Bool.true_and]
      unfold m_slices_EqualFunc_Step
      cases he : eqb (f.steps.length : Nat) (g.steps.length : Nat) with
      | false => rfl
      | true =>
        have he := eqb_true.1 he
        simp only [Bool.not_true, cond_false, Bool.true_and]
        rw [all_list (fun k s => match g.steps[k]? with | some t => stepEq s t | none => false) false (fun n k => m_slices_EqualFunc_Step_L7 N f.steps g.steps (fun x0 x1 => m_impl_Step_same N x0 x1) n k) f.steps (fun k => k) N (by omega) ?_ ?_]
        · cases allIdx (fun k s => match g.steps[k]? with | some t => stepEq s t | none => false) 0 f.steps <;> rfl
        · rintro n k rfl
          simp only [m_slices_EqualFunc_Step_L7]
          rw [ltb_false.2 (by omega)]; rfl
        · intro n k h
          simp only [m_slices_EqualFunc_Step_L7]
          have := (hf.2 _ (List.getElem_mem h)).2.1
          rw [ltb_true.2 (by omega), cond_true, List.getElem?_eq_getElem h, Option.bind_some, List.getElem?_eq_getElem (by omega), Option.bind_some, e_Step_same (by omega), Option.bind_some]
          simp only
          cases stepEq f.steps[k] (g.steps[k]'(by omega)) <;> rfl
/-- Whether the step at place k of what is done does not fit. -/
def badK (steps : List Step) (done : List Str) (k : Nat) (y : Str) : Bool := !hasB (steps.map (·.name)) y || (hasB (done.take k) y || match steps[(posOf (·.name) steps y).toNat]? with | some s => !haveB (done.take k) s.after | none => true)

theorem at_get {steps : List Step} {y : Str} (h : hasB (steps.map (·.name)) y = true) : ∃ (i : Nat) (hi : i < steps.length), posOf (·.name) steps y = i := by
  rcases posOf_cases (fun s : Step => s.name) steps y with h1 | ⟨i, hi, h1, _⟩
  · rw [hasB_true] at h
    obtain ⟨s, hs, rfl⟩ := List.mem_map.1 h
    obtain ⟨i, hi, rfl⟩ := List.getElem_of_mem hs
    exact absurd rfl (h1.2 i hi)
  · exact ⟨i, hi, h1⟩

end Go.Proofs.YtmnhnldnnniglaaGreat
