/- The laws: a run that fits. -/
import Derived.Test.YthlhkinkcbamgaaP16
import Derived.Test.YthlhkinkcbamgaaP18
import Derived.Test.YthlhkinkcbamgaaP20
set_option linter.all false
namespace Go.Proofs.Ythlhkinkcbamgaa

theorem small_up2 {f : Flow} {B C : Nat} (hf : smallF f B) (h : B ≤ C) : smallF f C := ⟨by have := hf.1; omega, fun s hs => ⟨by have := (hf.2 s hs).1; omega, by have := (hf.2 s hs).2.1; omega, fun z hz => by have := (hf.2 s hs).2.2 z hz; omega⟩⟩
theorem sameRunB {N : Nat} {a b : Run} (hN : a.done.length < N) : m_laws_sameRun N a b = some (eqb a.state b.state && decide (a.done = b.done)) := by
  unfold m_laws_sameRun
  rw [e_sameTexts hN]
  cases eqb a.state b.state <;> rfl
theorem sameRun_it {N : Nat} {a : Run} (hN : a.done.length < N) : m_laws_sameRun N a a = some true := by
  rw [sameRunB hN, eqb_true.2 rfl, decide_eq_true rfl]; rfl

/-- What all laws of runs that fit begin with. -/
theorem fit_begin {f g : Flow} {r : Run} (hf : smallF f 16) (hg : smallF g 16) (hr : shortL r.done 16) :
    m_impl_FitRun 200 f g r = some (fitRun f g r) ∧ m_spec_FitRun 200 f g r = some (fitRun f g r) ∧ m_laws_sameRun 200 (fitRun f g r).1 (fitRun f g r).1 = some true :=
  ⟨e_impl_FitRun hf hg hr.1 (by omega) (by omega), e_spec_FitRun hf hg hr.1 (by omega) (by omega), sameRun_it (by have := fit_len (f := f) (g := g) hr.1; omega)⟩

theorem begin0 {u0 : List UInt8} {x : Option Bool} (h : x = some true) : (bif ltb 1048576 ((u0.length : Nat) : Int) then some true else x) = some true := by
  rw [h]
  cases ltb 1048576 ((u0.length : Nat) : Int) <;> rfl

/-! ## Moved twice -/

theorem both_parts {f g h : Flow} {r : Run} (hb : (moveBoth f g h r).2 = true) : (fitRun f g r).2 = true ∧ (fitRun g h (fitRun f g r).1).2 = true ∧ moveBoth f g h r = fitRun g h (fitRun f g r).1 := by
  unfold moveBoth at hb ⊢
  cases hc : (fitRun f g r).2 with
  | false => rw [hc] at hb; cases hb
  | true => rw [hc] at hb; exact ⟨rfl, hb, rfl⟩

end Go.Proofs.Ythlhkinkcbamgaa
