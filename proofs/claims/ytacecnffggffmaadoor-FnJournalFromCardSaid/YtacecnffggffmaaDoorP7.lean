/- Drawn flows and registries are small. -/
import Derived.Test.YtacecnffggffmaaDoorP5
set_option linter.all false
namespace Go.Proofs.YtacecnffggffmaaDoor

theorem pick_two {N : Nat} {cd : List UInt8} {p : Nat} {m : Int} (hp : p ≤ 1000000000) {α : Type} (f : Int × Nat → Option α) : (m_spec_l6Rd_pick N cd p m).bind f = f (((pickv cd p m : Nat) : Int), p + 1) := by rw [pick_ok hp]; rfl

/-! ## Flows compared, copied -/

def stepEqB (a b : Step) : Bool := seq a.name b.name && ((a.undo == b.undo) && decide (a.after = b.after))
theorem stepEqB_true (a b : Step) : stepEqB a b = true ↔ a = b := by
  unfold stepEqB
  rw [Bool.and_eq_true, Bool.and_eq_true, seq_iff, beq_iff_eq, decide_eq_true_eq]
  cases a; cases b
  simp only [Step.mk.injEq]
  exact ⟨fun ⟨a, b, c⟩ => ⟨a, c, b⟩, fun ⟨a, b, c⟩ => ⟨a, c, b⟩⟩
def stepsEq (l m : List Step) : Bool := decide (l.length = m.length) && allIdx (fun k s => match m[k]? with | some t => stepEqB s t | none => false) 0 l
theorem stepsEq_true {l m : List Step} : stepsEq l m = true ↔ l = m := by
  unfold stepsEq
  rw [Bool.and_eq_true, decide_eq_true_eq, allIdx_true]
  constructor
  · rintro ⟨h1, h2⟩
    refine List.ext_getElem h1 fun i h3 h4 => ?_
    have := h2 i h3
    simp only [Nat.zero_add] at this
    rw [List.getElem?_eq_getElem h4] at this
    exact (stepEqB_true _ _).1 this
  · rintro rfl
    refine ⟨rfl, fun i h => ?_⟩
    simp only [Nat.zero_add]
    rw [List.getElem?_eq_getElem h]
    exact (stepEqB_true _ _).2 rfl
def flowEq (f g : Flow) : Bool := eqb f.ver g.ver && stepsEq f.steps g.steps
theorem flowEq_true {f g : Flow} : flowEq f g = true ↔ f = g := by
  unfold flowEq
  rw [Bool.and_eq_true, eqb_true, stepsEq_true]
  cases f; cases g
  simp
theorem copy_fold {N B : Nat} {f : Flow} (hf : smallF f B) (hB : B ≤ 1999999999) : ∀ s ∈ f.steps, s.after.length ≤ 4000000000 := fun s hs => by have := (hf.2 s hs).2.1; omega
/-! ## Found in a registry -/

def verAt (l : List Flow) (v : Int) : Int := match l.findIdx? (fun f => eqb f.ver v) with | some i => (i : Int) | none => -1
theorem verAt_cases (l : List Flow) (v : Int) : verAt l v = -1 ∨ ∃ (i : Nat) (h : i < l.length), verAt l v = i ∧ l[i].ver = v := by
  unfold verAt
  cases h : l.findIdx? (fun f => eqb f.ver v) with
  | none => exact .inl rfl
  | some i =>
    obtain ⟨hi, h1, _⟩ := List.findIdx?_eq_some_iff_getElem.1 h
    exact .inr ⟨i, hi, rfl, eqb_true.1 h1⟩
def regFind (l : List Flow) (v : Int) : Flow × Bool := bif regOk l then (bif ltb (verAt l v) 0 then (⟨0, []⟩, false) else match l[(verAt l v).toNat]? with | some f => (f, true) | none => (⟨0, []⟩, false)) else (⟨0, []⟩, false)
end Go.Proofs.YtacecnffggffmaaDoor
