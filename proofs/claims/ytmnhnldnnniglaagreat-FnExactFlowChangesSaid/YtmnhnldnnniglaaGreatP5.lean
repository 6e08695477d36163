/- Whether a flow is fine; copies, comparisons and measures of flows. -/
import Derived.Test.YtmnhnldnnniglaaGreatP4
set_option linter.all false
namespace Go.Proofs.YtmnhnldnnniglaaGreat

def flowStep (f : Flow) (k : Nat) (s : Step) : Bool := stepOk s && ((decide (k = 0) || match f.steps[k-1]? with | some y => slt y.name s.name | none => false) && haveB (f.steps.map (·.name)) s.after)
def flowOk (f : Flow) : Bool := allIdx (flowStep f) 0 f.steps && ((leb 1 f.ver && leb f.ver 99) && ((leb 1 (f.steps.length : Nat) && leb (f.steps.length : Nat) 8) && eqb ((ordN f.steps f.steps.length []).length : Nat) (f.steps.length : Nat)))

theorem stepOk_name {s : Step} (h : stepOk s = true) : nameOk s.name = true := by
  unfold stepOk at h
  simp only [Bool.and_eq_true] at h
  exact h.1.1.2
theorem nameOk_ne {s : Str} (h : nameOk s = true) : s ≠ ⟨#[]⟩ := fun e => by subst e; revert h; decide

theorem e_spec_FlowValid {N B : Nat} {f : Flow} (hl : smallF f B) (hB : B ≤ 4000000000 - 1) (hN : B < N) : m_spec_FlowValid N f = some (flowOk f) := by
  have hlen := hl.1
  unfold m_spec_FlowValid flowOk
  rw [all_list (flowStep f) false (fun n k => m_spec_FlowValid_L9 N f n k) f.steps (fun k => k) N (by omega) ?_ ?_, Option.bind_some]
  · cases hc : allIdx (flowStep f) 0 f.steps with
    | false => rfl
    | true =>
      have hne : ∀ s ∈ f.steps, s.name ≠ ⟨#[]⟩ := fun s hs => by
        obtain ⟨i, hi, rfl⟩ := List.getElem_of_mem hs
        have := allIdx_true.1 hc i hi
        unfold flowStep at this
        simp only [Bool.and_eq_true] at this
        exact nameOk_ne (stepOk_name this.1)
      simp only [cond_true, Ex.go, e_spec_l6In, Option.bind_some, Bool.true_and]
      rw [e_l2Order (by omega) (fun s hs => by have := (hl.2 s hs).2.1; omega) (by omega) hne]
      cases (leb 1 f.ver && leb f.ver 99) <;> cases (leb 1 (f.steps.length : Nat) && leb (f.steps.length : Nat) 8) <;> rfl
  · rintro n k rfl
    simp only [m_spec_FlowValid_L9]
    rw [ltb_false.2 (by omega)]; rfl
  · intro n k h
    simp only [m_spec_FlowValid_L9]
    have hs := hl.2 _ (List.getElem_mem h)
    have inner : m_spec_FlowValid_L21 N f f.steps[k] N 0 = some (bif haveB (f.steps.map (·.name)) f.steps[k].after then .brk f.steps[k].after.length else .ret false) := by
      have := hs.2.1
      rw [all_list (fun _ x => hasB (f.steps.map (·.name)) x) false (fun n j => m_spec_FlowValid_L21 N f f.steps[k] n j) f.steps[k].after (fun j => j) N (by omega) ?_ ?_, allIdx_all]
      · rfl
      · rintro n j rfl
        simp only [m_spec_FlowValid_L21]
        rw [ltb_false.2 (by omega)]; rfl
      · intro n j hj
        simp only [m_spec_FlowValid_L21]
        rw [ltb_true.2 (by omega), cond_true, List.getElem?_eq_getElem hj, Option.bind_some, e_l2At (by omega), Option.bind_some, hasB_map]
        cases hasB (f.steps.map (·.name)) f.steps[k].after[j] <;> rfl
    rw [ltb_true.2 (by omega), cond_true, List.getElem?_eq_getElem h, Option.bind_some, e_spec_StepValid hs (by omega) hN, Option.bind_some, inner]
    unfold flowStep
    cases stepOk f.steps[k] with
    | false => rfl
    | true =>
      rcases Nat.eq_zero_or_pos k with h0 | h0
      · subst h0
        rw [ltb_false.2 (by omega)]
        cases haveB (f.steps.map (·.name)) f.steps[0].after <;> rfl
      · rw [ltb_true.2 (by omega), show ((k : Nat) : Int) - 1 = ((k - 1 : Nat) : Int) by omega, geti_nat, List.getElem?_eq_getElem (by omega), Option.bind_some]
        simp only [Bool.not_true, cond_false, cond_true, Bool.true_and, show decide (k = 0) = false by simp; omega, Bool.false_or]
        cases slt f.steps[k-1].name f.steps[k].name <;> cases haveB (f.steps.map (·.name)) f.steps[k].after <;> rfl

theorem e_impl_FlowValid {N B : Nat} {f : Flow} (hl : smallF f B) (hB : B ≤ 4000000000 - 1) (hN : B < N) : m_impl_FlowValid N f = some (flowOk f) := by
  have hlen := hl.1
  have hsh : shortL (f.steps.map (·.name)) B := ⟨by simpa using hlen, fun x hx => by
    obtain ⟨s, hs, rfl⟩ := List.mem_map.1 hx
    exact (hl.2 s hs).1⟩
  have e1 : allIdx (flowStep f) 0 f.steps = (ascOk (f.steps.map (·.name)) && f.steps.all fun s => stepOk s && haveB (f.steps.map (·.name)) s.after) := by
    rw [Bool.eq_iff_iff, Bool.and_eq_true, allIdx_true, List.all_eq_true]
    unfold ascOk
    rw [allIdx_true]
    constructor
    · intro h
      refine ⟨fun i hi => ?_, fun s hs => ?_⟩
      · have hi' : i < f.steps.length := by simpa using hi
        have a := h i hi'
        unfold flowStep at a
        simp only [Bool.and_eq_true, Nat.zero_add] at a
        unfold ascP
        simp only [Nat.zero_add, List.getElem_map, Bool.and_eq_true, List.getElem?_map]
        refine ⟨stepOk_name a.1, ?_⟩
        have b := a.2.1
        cases hc : f.steps[i-1]? with
        | none => rw [hc] at b; exact b
        | some y => rw [hc] at b; exact b
      · obtain ⟨i, hi, rfl⟩ := List.getElem_of_mem hs
        have a := h i hi
        unfold flowStep at a
        simp only [Bool.and_eq_true] at a ⊢
        exact ⟨a.1, a.2.2⟩
    · rintro ⟨h1, h2⟩ i hi
      have a := h1 i (by simpa using hi)
      have b := h2 f.steps[i] (List.getElem_mem hi)
      unfold ascP at a
      unfold flowStep
      simp only [Nat.zero_add, List.getElem_map, Bool.and_eq_true, List.getElem?_map] at a b ⊢
      refine ⟨b.1, ?_, b.2⟩
      have c := a.2
      cases hc : f.steps[i-1]? with
      | none => rw [hc] at c; exact c
      | some y => rw [hc] at c; exact c
  unfold m_impl_FlowValid flowOk
  rw [e1, e_Flow_names (by omega) (by omega), Option.bind_some, e_namesAscend hsh (by omega) hN, Option.bind_some, e_Flow_order (by omega) (fun s hs => by have := (hl.2 s hs).2.1; omega) (by omega)]
  rw [show ltb f.ver 1 = !leb 1 f.ver by by_cases h : f.ver < 1 <;> simp [ltb_dec, leb_dec, h] <;> omega, show ltb 99 f.ver = !leb f.ver 99 by by_cases h : 99 < f.ver <;> simp [ltb_dec, leb_dec, h] <;> omega,
    show ltb (f.steps.length : Nat) 1 = !leb 1 (f.steps.length : Nat) by by_cases h : ((f.steps.length : Nat) : Int) < 1 <;> simp [ltb_dec, leb_dec, h] <;> omega, show ltb 8 (f.steps.length : Nat) = !leb (f.steps.length : Nat) 8 by by_cases h : (8 : Int) < (f.steps.length : Nat) <;> simp [ltb_dec, leb_dec, h] <;> omega]
  rw [all_list (fun _ s => stepOk s && haveB (f.steps.map (·.name)) s.after) false (fun n k => m_impl_FlowValid_L12 N f n k) f.steps (fun k => k) N (by omega) ?_ ?_, allIdx_all]
  · cases leb 1 f.ver <;> cases leb f.ver 99 <;> cases leb 1 (f.steps.length : Nat) <;> cases leb (f.steps.length : Nat) 8 <;> cases ascOk (f.steps.map (·.name)) <;> cases (f.steps.all fun s => stepOk s && haveB (f.steps.map (·.name)) s.after) <;> rfl
  · rintro n k rfl
    simp only [m_impl_FlowValid_L12]
    rw [ltb_false.2 (by omega)]; rfl
  · intro n k h
    simp only [m_impl_FlowValid_L12]
    have hs := hl.2 _ (List.getElem_mem h)
    have := hs.2.1
    rw [ltb_true.2 (by omega), cond_true, List.getElem?_eq_getElem h, Option.bind_some, e_impl_StepValid hs (by omega) hN, Option.bind_some, e_Flow_names (by omega) (by omega), Option.bind_some, e_NamesHave (by simp; omega) (by omega), Option.bind_some]
    cases stepOk f.steps[k] <;> cases haveB (f.steps.map (·.name)) f.steps[k].after <;> rfl

/-! ## Registries -/

def regStep (l : List Flow) (k : Nat) (f : Flow) : Bool := flowOk f && (decide (k = 0) || match l[k-1]? with | some y => ltb y.ver f.ver | none => false)
def regOk (l : List Flow) : Bool := allIdx (regStep l) 0 l && leb (l.length : Nat) 4
def smallR (l : List Flow) (B : Nat) : Prop := l.length ≤ B ∧ ∀ f ∈ l, smallF f B
theorem leb_not {a b : Int} : leb a b = !ltb b a := by by_cases h : a ≤ b <;> simp [ltb_dec, leb_dec, h] <;> omega

/-! ## Copies -/

theorem e_toStringS {N : Nat} {l : List Str} (hl : l.length ≤ 4000000000) (hN : l.length < N) : m_laws_toStringS N l = some l := by
  unfold m_laws_toStringS
  rw [mkl_ok hl, Option.bind_some, copy_list (fun n s k => m_laws_toStringS_L5 N l n s k) l _ (fun k s => (s, k)) N hN (by simp) ?_ ?_]
  · rfl
  · rintro n s k rfl
    simp only [m_laws_toStringS_L5]
    rw [ltb_false.2 (by omega)]; rfl
  · intro n s k h hs
    simp only [m_laws_toStringS_L5]
    rw [ltb_true.2 (by omega), cond_true, List.getElem?_eq_getElem h, Option.bind_some, List.getElem?_eq_getElem (by omega), Option.bind_some]
theorem e_toStep {N : Nat} {s : Step} (hl : s.after.length ≤ 4000000000) (hN : s.after.length < N) : m_laws_toStep N s = some s := by
  unfold m_laws_toStep
  rw [e_toStringS hl hN]; rfl
theorem e_toStepS {N : Nat} {l : List Step} (hl : l.length ≤ 4000000000) (hN : l.length < N) (ha : ∀ s ∈ l, s.after.length ≤ 4000000000 ∧ s.after.length < N) : m_laws_toStepS N l = some l := by
  unfold m_laws_toStepS
  rw [mkl_ok hl, Option.bind_some, copy_list (fun n s k => m_laws_toStepS_L5 N l n s k) l _ (fun k s => (s, k)) N hN (by simp) ?_ ?_]
  · rfl
  · rintro n s k rfl
    simp only [m_laws_toStepS_L5]
    rw [ltb_false.2 (by omega)]; rfl
  · intro n s k h hs
    simp only [m_laws_toStepS_L5]
    have := ha _ (List.getElem_mem h)
    rw [ltb_true.2 (by omega), cond_true, List.getElem?_eq_getElem h, Option.bind_some, e_toStep this.1 this.2, Option.bind_some, List.getElem?_eq_getElem (by omega), Option.bind_some]
theorem e_toFlow {N B : Nat} {f : Flow} (hl : smallF f B) (hB : B ≤ 4000000000 - 1) (hN : B < N) : m_laws_toFlow N f = some f := by
  unfold m_laws_toFlow
  have := hl.1
  rw [e_toStepS (by omega) (by omega) (fun s hs => by have := (hl.2 s hs).2.1; omega)]; rfl
/-! ## Comparisons -/

theorem e_eqStringS {N : Nat} {l m : List Str} (hN : l.length < N) : m_laws_eqStringS N l m = some (decide (l = m)) := by
  unfold m_laws_eqStringS
  by_cases hl : l.length = m.length
  · rw [eqb_true.2 (by omega), Bool.not_true, cond_false]
    have k := same_list seq (fun _ _ => seq_iff) (fun n k => m_laws_eqStringS_L8 N l m n k) l m (fun k => k) N hN hl ?_ ?_
    · by_cases h : l = m
      · rw [k.1 h, decide_eq_true h]; rfl
      · rw [k.2 h, decide_eq_false h]; rfl
    · rintro n k rfl
      simp only [m_laws_eqStringS_L8]
      rw [ltb_false.2 (by omega)]; rfl
    · intro n k h h2
      simp only [m_laws_eqStringS_L8]
      rw [ltb_true.2 (by omega), cond_true, List.getElem?_eq_getElem h, Option.bind_some, List.getElem?_eq_getElem h2, Option.bind_some]
  · rw [eqb_false.2 (by omega), decide_eq_false (fun h => hl (by rw [h]))]; rfl
theorem e_eqStep_self {N : Nat} {s : Step} (hN : s.after.length < N) : m_laws_eqStep N s s = some true := by
  unfold m_laws_eqStep
  rw [seq_self, e_eqStringS hN, decide_eq_true rfl]
  simp
def eqAll (_ : Step) (_ : Step) : Bool := true
theorem e_eqStepS_self {N : Nat} {l : List Step} (hN : l.length < N) (ha : ∀ s ∈ l, s.after.length < N) : m_laws_eqStepS N l l = some true := by
  unfold m_laws_eqStepS
  rw [eqb_true.2 rfl, Bool.not_true, cond_false, all_list (fun _ _ => true) false (fun n k => m_laws_eqStepS_L8 N l l n k) l (fun k => k) N hN ?_ ?_, allIdx_all, List.all_eq_true.2 (fun _ _ => rfl)]
  · rfl
  · rintro n k rfl
    simp only [m_laws_eqStepS_L8]
    rw [ltb_false.2 (by omega)]; rfl
  · intro n k h
    simp only [m_laws_eqStepS_L8]
    rw [ltb_true.2 (by omega), cond_true, List.getElem?_eq_getElem h, Option.bind_some, Option.bind_some, e_eqStep_self (ha _ (List.getElem_mem h))]; rfl
theorem e_eqFlow_self {N B : Nat} {f : Flow} (hl : smallF f B) (hN : B < N) : m_laws_eqFlow N f f = some true := by
  unfold m_laws_eqFlow
  have := hl.1
  rw [eqb_true.2 rfl, e_eqStepS_self (by omega) (fun s hs => by have := (hl.2 s hs).2.1; omega)]; rfl
/-! ## Measures -/

def wStrs (l : List Str) : Nat := l.length + wsum (fun x : Str => x.size) l
def wStep (s : Step) : Nat := s.name.size + wStrs s.after
def wFlow (f : Flow) : Nat := f.steps.length + wsum wStep f.steps
def wFlows (l : List Flow) : Nat := l.length + wsum wFlow l
def hugeL (l : List Str) : Prop := l.length ≤ 140737488351232 ∧ ∀ x ∈ l, x.size ≤ 140737488351232
def hugeS (s : Step) : Prop := s.name.size ≤ 140737488351232 ∧ hugeL s.after
def hugeF (f : Flow) : Prop := f.steps.length ≤ 140737488351232 ∧ ∀ s ∈ f.steps, hugeS s

theorem gz_two {a b : Nat} {left : Int} (h0 : 0 ≤ left) (hn : ¬ gz a left < 0) : gz b (gz a left) = gz (a + b) left := by
  rw [← gz_add h0, if_neg hn]
theorem gz_one {a b : Nat} {left : Int} (h0 : 0 ≤ left) (hn : gz a left < 0) : gz (a + b) left = -1 := by
  rw [← gz_add h0, if_pos hn]
theorem gz_m1 {a : Nat} {left : Int} (h0 : 0 ≤ left) (hn : gz a left < 0) : gz a left = -1 := (gz_neg hn).elim id (fun h => absurd h0 h)
theorem gz_rest {a : Nat} {left : Int} (hn : ¬ gz a left < 0) : gz a left = left - a := (gz_pos (Int.not_lt.1 hn)).2
theorem gz_lt {a : Nat} {left : Int} (h0 : 0 ≤ left) : gz a left < 0 ↔ left - (a : Int) < 0 := by unfold gz; split <;> omega
theorem gz_b {a : Nat} {left : Int} (h0 : 0 ≤ left) : ltb (left - (a : Int)) 0 = ltb (gz a left) 0 := by
  by_cases h : gz a left < 0
  · rw [ltb_true.2 h, ltb_true.2 ((gz_lt h0).1 h)]
  · have e := gz_rest h
    rw [ltb_false.2 (by omega), ltb_false.2 (by omega)]

theorem e_szStringS {N : Nat} {l : List Str} {left : Int} (h : hugeL l) (hN : 140737488351232 < N) (h0 : 0 ≤ left) (h1 : left ≤ 1048576) : m_laws_szStringS N l left = some (gz (wStrs l) left) := by
  have hl := h.1
  unfold m_laws_szStringS wStrs
  rw [gz_w64 h0 h1 (by omega), gz_b h0]
  by_cases hc : gz l.length left < 0
  · rw [ltb_true.2 hc, gz_one h0 hc]; rfl
  rw [ltb_false.2 (by omega), cond_false, ← gz_rest hc]
  rw [size_list (fun n s k => m_laws_szStringS_L8 N l n s k) l (fun t => t.size) (fun k s => (s, k)) N (by omega) ?_ ?_ (gz l.length left) (by omega) (Int.le_trans (gz_le h0) h1), Option.bind_some, gz_two h0 hc]
  · split
    · rename_i h2; rw [gz_m1 h0 h2]; rfl
    · rfl
  · rintro n s k rfl
    simp only [m_laws_szStringS_L8]
    rw [ltb_false.2 (by omega)]; rfl
  · intro n s k hk s0 s1
    simp only [m_laws_szStringS_L8]
    have := h.2 _ (List.getElem_mem hk)
    rw [ltb_true.2 (by omega), cond_true, List.getElem?_eq_getElem hk, Option.bind_some, ssz_ok (by omega), Option.bind_some, gz_w64 s0 s1 (by omega), gz_b s0]
    by_cases hd : gz l[k].size s < 0
    · rw [ltb_true.2 hd]; rfl
    · rw [ltb_false.2 (by omega), ← gz_rest hd]

theorem e_szStep {N : Nat} {a : Step} {left : Int} (h : hugeS a) (hN : 140737488351232 < N) (h0 : 0 ≤ left) (h1 : left ≤ 1048576) : m_laws_szStep N a left = some (gz (wStep a) left) := by
  have hl := h.1
  unfold m_laws_szStep wStep
  rw [ssz_ok (by omega), Option.bind_some, gz_w64 h0 h1 (by omega), gz_b h0]
  by_cases hc : gz a.name.size left < 0
  · rw [ltb_true.2 hc, gz_one h0 hc]; rfl
  rw [ltb_false.2 (by omega), cond_false, ← gz_rest hc, e_szStringS h.2 hN (by omega) (Int.le_trans (gz_le h0) h1), Option.bind_some, gz_two h0 hc]
  by_cases hd : gz (a.name.size + wStrs a.after) left < 0
  · rw [ltb_true.2 hd, gz_m1 h0 hd]; rfl
  · rw [ltb_false.2 (by omega)]; rfl

theorem e_szStepS {N : Nat} {l : List Step} {left : Int} (h : l.length ≤ 140737488351232 ∧ ∀ s ∈ l, hugeS s) (hN : 140737488351232 < N) (h0 : 0 ≤ left) (h1 : left ≤ 1048576) : m_laws_szStepS N l left = some (gz (l.length + wsum wStep l) left) := by
  have hl := h.1
  unfold m_laws_szStepS
  rw [gz_w64 h0 h1 (by omega), gz_b h0]
  by_cases hc : gz l.length left < 0
  · rw [ltb_true.2 hc, gz_one h0 hc]; rfl
  rw [ltb_false.2 (by omega), cond_false, ← gz_rest hc]
  rw [size_list (fun n s k => m_laws_szStepS_L8 N l n s k) l wStep (fun k s => (s, k)) N (by omega) ?_ ?_ (gz l.length left) (by omega) (Int.le_trans (gz_le h0) h1), Option.bind_some, gz_two h0 hc]
  · split
    · rename_i h2; rw [gz_m1 h0 h2]; rfl
    · rfl
  · rintro n s k rfl
    simp only [m_laws_szStepS_L8]
    rw [ltb_false.2 (by omega)]; rfl
  · intro n s k hk s0 s1
    simp only [m_laws_szStepS_L8]
    rw [ltb_true.2 (by omega), cond_true, List.getElem?_eq_getElem hk, Option.bind_some, e_szStep (h.2 _ (List.getElem_mem hk)) hN s0 s1, Option.bind_some]

theorem e_szFlow {N : Nat} {f : Flow} {left : Int} (h : hugeF f) (hN : 140737488351232 < N) (h0 : 0 ≤ left) (h1 : left ≤ 1048576) : m_laws_szFlow N f left = some (gz (wFlow f) left) := by
  unfold m_laws_szFlow wFlow
  rw [e_szStepS h hN h0 h1, Option.bind_some]
  by_cases hd : gz (f.steps.length + wsum wStep f.steps) left < 0
  · rw [ltb_true.2 hd, gz_m1 h0 hd]; rfl
  · rw [ltb_false.2 (by omega)]; rfl

theorem small_strs {l : List Str} {B : Nat} (h : wStrs l ≤ B) : shortL l B := by
  unfold wStrs at h
  exact ⟨by omega, fun x hx => by have := wsum_mem (w := fun x : Str => x.size) hx; omega⟩
theorem small_step {s : Step} {B : Nat} (h : wStep s ≤ B) : smallS s B := by
  unfold wStep at h
  exact ⟨by omega, small_strs (by omega)⟩
theorem small_flow {f : Flow} {B : Nat} (h : wFlow f ≤ B) : smallF f B := by
  unfold wFlow at h
  exact ⟨by omega, fun s hs => small_step (by have := wsum_mem (w := wStep) hs; omega)⟩
theorem small_flows {l : List Flow} {B : Nat} (h : wFlows l ≤ B) : smallR l B := by
  unfold wFlows at h
  exact ⟨by omega, fun s hs => small_flow (by have := wsum_mem (w := wFlow) hs; omega)⟩
end Go.Proofs.YtmnhnldnnniglaaGreat
