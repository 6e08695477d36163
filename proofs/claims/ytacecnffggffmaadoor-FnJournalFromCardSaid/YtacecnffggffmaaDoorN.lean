/- Parts of texts. -/
import Derived.Test.YtacecnffggffmaaDoorH
import Derived.Laws.Strings2
set_option linter.all false
namespace Go.Proofs.YtacecnffggffmaaDoor
open Go.RowKit

def ssub (s : Str) (i j : Int) : Option Str := if 0 ≤ i ∧ i ≤ j ∧ j ≤ (s.size : Int) then some (s.extract i.toNat j.toNat) else none
theorem ssub_some {s u : Str} {i j : Int} (h : ssub s i j = some u) : (0 ≤ i ∧ i ≤ j ∧ j ≤ (s.size : Int)) ∧ u = s.extract i.toNat j.toNat := by
  unfold ssub at h
  split at h
  · rename_i h1
    exact ⟨h1, (Option.some.inj h).symm⟩
  · cases h
def chkTxt (P : Program) (t : TypeId) : Bool := match P.underlying t with | some .string => true | _ => false
theorem chkTxt_ok {P : Program} {t : TypeId} (h : chkTxt P t = true) : P.underlying t = some .string := by
  unfold chkTxt at h
  split at h
  · assumption
  · cases h

section
variable {P : Program} (T : Tab P) {Q : Exit → Act → World → Prop} {N : Nat} {L : SL} {w0 : World} {M : List Nat} {H Hs : List Ch} {o : Oper} {K : Act → World → Prop} {d : Nat} {v : Value}
theorem yh_strLH {t : TypeId} {x y z : Operand} {k k' : IntKind} {i j : Int} {s u : Str} (hu : ssub s i j = some u) (ho : o.op = .slice t x (some y) (some z) none) (hx : ev L x = some (.string s)) (hy : ev L y = some (.int k i)) (hz : ev L z = some (.int k' j)) (hc : chkTxt P t = true) : YH P o (.string u) N L w0 M H := .mk fun a w hF hH => by
  obtain ⟨⟨h0, h1, h2⟩, rfl⟩ := ssub_some hu
  have := fun w => run_slice_string (P := P) w t s k k' i j (chkTxt_ok hc) h0 h1 h2
  simp [execOp, ho, hF.ev hx, hF.ev hy, hF.ev hz, Instr.sliceAt, run_underlying (chkTxt_ok hc), this]
theorem yh_strL {t : TypeId} {x y : Operand} {k : IntKind} {i : Int} {s u : Str} (hu : ssub s i (s.size : Int) = some u) (ho : o.op = .slice t x (some y) none none) (hx : ev L x = some (.string s)) (hy : ev L y = some (.int k i)) (hc : chkTxt P t = true) : YH P o (.string u) N L w0 M H := .mk fun a w hF hH => by
  obtain ⟨⟨h0, h1, _⟩, rfl⟩ := ssub_some hu
  have := fun w => run_slice_string_l (P := P) w t s (chkTxt_ok hc) k i h0 h1
  simp [execOp, ho, hF.ev hx, hF.ev hy, Instr.sliceAt, run_underlying (chkTxt_ok hc), this]
theorem yh_strH {t : TypeId} {x z : Operand} {k' : IntKind} {j : Int} {s u : Str} (hu : ssub s 0 j = some u) (ho : o.op = .slice t x none (some z) none) (hx : ev L x = some (.string s)) (hz : ev L z = some (.int k' j)) (hc : chkTxt P t = true) : YH P o (.string u) N L w0 M H := .mk fun a w hF hH => by
  obtain ⟨⟨_, h1, h2⟩, rfl⟩ := ssub_some hu
  have := fun w => run_slice_string_h (P := P) w t s (chkTxt_ok hc) k' j h1 h2
  simp [execOp, ho, hF.ev hx, hF.ev hz, Instr.sliceAt, run_underlying (chkTxt_ok hc), this]
end
end Go.Proofs.YtacecnffggffmaaDoor
