/- Runs of flows: orders, states, fitting. -/
import Derived.Test.YtmnhnldnnniglaaGreatP6
import Derived.Test.YtmnhnldnnniglaaGreatP9
import Derived.Test.YtmnhnldnnniglaaGreatP12
set_option linter.all false
namespace Go.Proofs.YtmnhnldnnniglaaGreat

/-! ## Steps by name -/

theorem step_at {f : Flow} (h : flowOk f = true) {i : Nat} (hi : i < f.steps.length) : posOf (·.name) f.steps f.steps[i].name = i := by
  refine posOf_at (f := fun s : Step => s.name) hi rfl fun j hj e => ?_
  have hn := flow_nodup h
  rw [List.nodup_iff_pairwise_ne, List.pairwise_map, List.pairwise_iff_getElem] at hn
  exact hn j i (by omega) hi hj e

theorem has_free {f : Flow} (h : flowOk f = true) (d : List Str) {i : Nat} (hi : i < f.steps.length) : hasB ((f.steps.filter (free d)).map (·.name)) f.steps[i].name = free d f.steps[i] := by
  rw [Bool.eq_iff_iff, hasB_true]
  constructor
  · intro h1
    obtain ⟨t, ht, e⟩ := List.mem_map.1 h1
    rw [List.mem_filter] at ht
    obtain ⟨j, hj, rfl⟩ := List.getElem_of_mem ht.1
    have h2 := step_at h hj
    rw [e, step_at h hi] at h2
    have : i = j := by omega
    subst this
    exact ht.2
  · intro h1
    exact List.mem_map.2 ⟨_, List.mem_filter.2 ⟨List.getElem_mem hi, h1⟩, rfl⟩

theorem bad_free {f : Flow} (h : flowOk f = true) (done : List Str) (k : Nat) (y : Str) : badK f.steps done k y = !hasB ((f.steps.filter (free (done.take k))).map (·.name)) y := by
  cases hc : hasB (f.steps.map (·.name)) y with
  | false =>
    have : hasB ((f.steps.filter (free (done.take k))).map (·.name)) y = false := by
      rw [Bool.eq_false_iff] at hc ⊢
      intro h1
      rw [hasB_true] at h1
      obtain ⟨t, ht, e⟩ := List.mem_map.1 h1
      rw [List.mem_filter] at ht
      exact hc (hasB_true.2 (List.mem_map.2 ⟨t, ht.1, e⟩))
    unfold badK
    rw [hc, this]; rfl
  | true =>
    obtain ⟨s, hs, rfl⟩ := List.mem_map.1 (hasB_true.1 hc)
    obtain ⟨i, hi, rfl⟩ := List.getElem_of_mem hs
    rw [has_free h _ hi]
    unfold badK free
    rw [hc, step_at h hi, Int.toNat_natCast, List.getElem?_eq_getElem hi]
    simp only
    cases hasB (done.take k) f.steps[i].name <;> cases haveB (done.take k) f.steps[i].after <;> rfl

/-! ## Orders in which steps can be done -/

def ordOk (steps : List Step) (done : List Str) : Bool := allIdx (fun k y => !badK steps done k y) 0 done

theorem ord_at {steps : List Step} {done : List Str} : ordOk steps done = true ↔ ∀ i (h : i < done.length), badK steps done i done[i] = false := by
  unfold ordOk
  rw [allIdx_true]
  simp only [Nat.zero_add, Bool.not_eq_true']
theorem ord_mem {steps : List Step} {done : List Str} (h : ordOk steps done = true) : ∀ y ∈ done, hasB (steps.map (·.name)) y = true := by
  intro y hy
  obtain ⟨i, hi, rfl⟩ := List.getElem_of_mem hy
  have := ord_at.1 h i hi
  unfold badK at this
  rw [Bool.or_eq_false_iff, Bool.not_eq_false'] at this
  exact this.1
theorem ord_nodup {steps : List Step} {done : List Str} (h : ordOk steps done = true) : done.Nodup := by
  rw [List.nodup_iff_pairwise_ne, List.pairwise_iff_getElem]
  intro i j hi hj hij e
  have := ord_at.1 h j hj
  unfold badK at this
  rw [Bool.or_eq_false_iff, Bool.or_eq_false_iff] at this
  have h1 := this.2.1
  rw [Bool.eq_false_iff] at h1
  refine h1 (hasB_true.2 ?_)
  rw [← e, List.mem_take_iff_getElem]
  exact ⟨i, by omega, rfl⟩
theorem ord_len {steps : List Step} {done : List Str} (h : ordOk steps done = true) : done.length ≤ steps.length := by
  have := sub_len (a := done) (b := steps.map (·.name)) (ord_nodup h) fun x hx => hasB_true.1 (ord_mem h x hx)
  simpa using this
theorem ord_nil (steps : List Step) : ordOk steps [] = true := rfl

theorem bad_ord (steps : List Step) (done : List Str) : (badOf steps done).2 = !ordOk steps done := by
  unfold badOf
  rcases firstBad_cases steps done done 0 with ⟨h1, h2⟩ | ⟨i, hi, h1, h2, _⟩
  · have : ordOk steps done = true := ord_at.2 fun i hi => by simpa using h2 i hi
    rw [h1, this]; rfl
  · have : ordOk steps done = false := by
      rw [Bool.eq_false_iff]
      intro h3
      have := ord_at.1 h3 i hi
      rw [Nat.zero_add] at h2
      rw [h2] at this; cases this
    rw [h1, this]; rfl

/-! ## The last step that is done -/

def lastU (steps : List Step) (done : List Str) : Bool := match done.getLast? with | some y => (match steps[(posOf (·.name) steps y).toNat]? with | some s => s.undo | none => false) | none => false

theorem e_cloneNames {N : Nat} {l : List Str} (h : l.length ≤ 4000000000) : m_impl_cloneNames N l = some l := by
  unfold m_impl_cloneNames
  rw [appd_ok (by simp; omega)]
  rfl

/-! ## States -/

theorem eq00 : eqb 0 0 = true := eqb_true.2 (by decide)
theorem eq01 : eqb 0 1 = false := eqb_false.2 (by decide)
theorem eq02 : eqb 0 2 = false := eqb_false.2 (by decide)
theorem eq03 : eqb 0 3 = false := eqb_false.2 (by decide)
theorem eq10 : eqb 1 0 = false := eqb_false.2 (by decide)
theorem eq11 : eqb 1 1 = true := eqb_true.2 (by decide)
theorem eq12 : eqb 1 2 = false := eqb_false.2 (by decide)
theorem eq13 : eqb 1 3 = false := eqb_false.2 (by decide)
theorem eq20 : eqb 2 0 = false := eqb_false.2 (by decide)
theorem eq21 : eqb 2 1 = false := eqb_false.2 (by decide)
theorem eq22 : eqb 2 2 = true := eqb_true.2 (by decide)
theorem eq23 : eqb 2 3 = false := eqb_false.2 (by decide)
theorem eq30 : eqb 3 0 = false := eqb_false.2 (by decide)
theorem eq31 : eqb 3 1 = false := eqb_false.2 (by decide)
theorem eq32 : eqb 3 2 = false := eqb_false.2 (by decide)
theorem eq33 : eqb 3 3 = true := eqb_true.2 (by decide)

/-! ## Runs -/

def stOk (steps : List Step) (r : Run) : Bool :=
  bif eqb r.state 0 then ltb ((r.done.length : Nat) : Int) ((steps.length : Nat) : Int) else bif eqb r.state 2 then eqb ((r.done.length : Nat) : Int) ((steps.length : Nat) : Int)
  else bif eqb r.state 1 then ltb ((r.done.length : Nat) : Int) ((steps.length : Nat) : Int) && lastU steps r.done else bif eqb r.state 3 then ltb ((r.done.length : Nat) : Int) ((steps.length : Nat) : Int) && !lastU steps r.done else false
def runOk (f : Flow) (r : Run) : Bool := flowOk f && (ordOk f.steps r.done && stOk f.steps r)

/-! ## A run of one flow as one of another -/

def fitRun (f g : Flow) (r : Run) : Run × Bool :=
  bif runOk f r && (flowOk g && ordOk g.steps r.done) then
    (bif eqb r.state 0 || eqb r.state 2 then (⟨bif eqb ((r.done.length : Nat) : Int) ((g.steps.length : Nat) : Int) then 2 else 0, r.done⟩, true)
    else bif eqb ((r.done.length : Nat) : Int) ((g.steps.length : Nat) : Int) then (⟨0, []⟩, false) else (⟨bif lastU g.steps r.done then 1 else 3, r.done⟩, true))
  else (⟨0, []⟩, false)

end Go.Proofs.YtmnhnldnnniglaaGreat
