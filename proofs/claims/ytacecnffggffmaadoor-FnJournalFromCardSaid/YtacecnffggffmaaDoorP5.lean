/- Whether a flow is fine; copies, comparisons and measures of flows. -/
import Derived.Test.YtacecnffggffmaaDoorP4
set_option linter.all false
namespace Go.Proofs.YtacecnffggffmaaDoor

def flowStep (f : Flow) (k : Nat) (s : Step) : Bool := stepOk s && ((decide (k = 0) || match f.steps[k-1]? with | some y => slt y.name s.name | none => false) && haveB (f.steps.map (·.name)) s.after)
def flowOk (f : Flow) : Bool := allIdx (flowStep f) 0 f.steps && ((leb 1 f.ver && leb f.ver 99) && ((leb 1 (f.steps.length : Nat) && leb (f.steps.length : Nat) 8) && eqb ((ordN f.steps f.steps.length []).length : Nat) (f.steps.length : Nat)))

theorem stepOk_name {s : Step} (h : stepOk s = true) : nameOk s.name = true := by
  unfold stepOk at h
  simp only [Bool.and_eq_true] at h
  exact h.1.1.2
theorem nameOk_ne {s : Str} (h : nameOk s = true) : s ≠ ⟨#[]⟩ := fun e => by subst e; revert h; decide

/-! ## Registries -/

def regStep (l : List Flow) (k : Nat) (f : Flow) : Bool := flowOk f && (decide (k = 0) || match l[k-1]? with | some y => ltb y.ver f.ver | none => false)
def regOk (l : List Flow) : Bool := allIdx (regStep l) 0 l && leb (l.length : Nat) 4
def smallR (l : List Flow) (B : Nat) : Prop := l.length ≤ B ∧ ∀ f ∈ l, smallF f B
theorem leb_not {a b : Int} : leb a b = !ltb b a := by by_cases h : a ≤ b <;> simp [ltb_dec, leb_dec, h] <;> omega

/-! ## Copies -/

/-! ## Comparisons -/

def eqAll (_ : Step) (_ : Step) : Bool := true
/-! ## Measures -/

def wStrs (l : List Str) : Nat := l.length + wsum (fun x : Str => x.size) l
def wStep (s : Step) : Nat := s.name.size + wStrs s.after
def wFlow (f : Flow) : Nat := f.steps.length + wsum wStep f.steps
def wFlows (l : List Flow) : Nat := l.length + wsum wFlow l
def hugeL (l : List Str) : Prop := l.length ≤ 140737488351232 ∧ ∀ x ∈ l, x.size ≤ 140737488351232
def hugeS (s : Step) : Prop := s.name.size ≤ 140737488351232 ∧ hugeL s.after
def hugeF (f : Flow) : Prop := f.steps.length ≤ 140737488351232 ∧ ∀ s ∈ f.steps, hugeS s

theorem gz_two {a b : Nat} {left : Int} (h0 : 0 ≤ left) (hn : ¬ gz a left < 0) : gz b (gz a left) = gz (a + b) left := by
  rw [← gz_add h0, if_neg hn]
theorem gz_one {a b : Nat} {left : Int} (h0 : 0 ≤ left) (hn : gz a left < 0) : gz (a + b) left = -1 := by
  rw [← gz_add h0, if_pos hn]
theorem gz_m1 {a : Nat} {left : Int} (h0 : 0 ≤ left) (hn : gz a left < 0) : gz a left = -1 := (gz_neg hn).elim id (fun h => absurd h0 h)
theorem gz_rest {a : Nat} {left : Int} (hn : ¬ gz a left < 0) : gz a left = left - a := (gz_pos (Int.not_lt.1 hn)).2
theorem gz_lt {a : Nat} {left : Int} (h0 : 0 ≤ left) : gz a left < 0 ↔ left - (a : Int) < 0 := by unfold gz; split <;> omega
theorem gz_b {a : Nat} {left : Int} (h0 : 0 ≤ left) : ltb (left - (a : Int)) 0 = ltb (gz a left) 0 := by
  by_cases h : gz a left < 0
  · rw [ltb_true.2 h, ltb_true.2 ((gz_lt h0).1 h)]
  · have e := gz_rest h
    rw [ltb_false.2 (by omega), ltb_false.2 (by omega)]

theorem small_strs {l : List Str} {B : Nat} (h : wStrs l ≤ B) : shortL l B := by
  unfold wStrs at h
  exact ⟨by omega, fun x hx => by have := wsum_mem (w := fun x : Str => x.size) hx; omega⟩
theorem small_step {s : Step} {B : Nat} (h : wStep s ≤ B) : smallS s B := by
  unfold wStep at h
  exact ⟨by omega, small_strs (by omega)⟩
theorem small_flow {f : Flow} {B : Nat} (h : wFlow f ≤ B) : smallF f B := by
  unfold wFlow at h
  exact ⟨by omega, fun s hs => small_step (by have := wsum_mem (w := wStep) hs; omega)⟩
theorem small_flows {l : List Flow} {B : Nat} (h : wFlows l ≤ B) : smallR l B := by
  unfold wFlows at h
  exact ⟨by omega, fun s hs => small_flow (by have := wsum_mem (w := wFlow) hs; omega)⟩
end Go.Proofs.YtacecnffggffmaaDoor
