/- How the program's data lie in memory. -/
import Derived.Test.YtacecnffggffmaaDoorFacts
import Derived.Test.YtacecnffggffmaaDoorPure
import Derived.Test.YtacecnffggffmaaDoorMore
set_option linter.all false
namespace Go.Proofs.YtacecnffggffmaaDoor
open Go.RowKit

def strsL : Lay (List Str) := sl 9 layS
def timerL : Lay Timer := plain 2 (fun t => [.int .i64 t.at_, .string t.name]) (fun _ => rfl) (fun _ u hu => by simp at hu; rcases hu with rfl | rfl <;> rfl)
def timersL : Lay (List Timer) := sl 0 timerL

/-! ## The reader of drawn codes -/

def bytesL : Lay (List UInt8) := sl 5 layU
def rdC (r : Nat) (bs : Value) (N : Nat) : Ch where
  A := fun w => ∃ p : Nat, p ≤ N ∧ (blkC r 63 [bs, .int .i64 p]).A w
  F := [r]
  stb := fun w w' h ⟨p, hp, hA⟩ => ⟨p, hp, (blkC r 63 [bs, .int .i64 p]).stb w w' h hA⟩
  lt := fun w ⟨p, hp, hA⟩ => (blkC r 63 [bs, .int .i64 p]).lt w hA
theorem rdC_mk {r : Nat} {bs : Value} {p N : Nat} (hp : p ≤ N) (w : World) (h : (blkC r 63 [bs, .int .i64 p]).A w) : (rdC r bs N).A w := ⟨p, hp, h⟩
theorem rdC_le {r : Nat} {bs : Value} {N N' : Nat} (hp : N ≤ N') (w : World) (h : (rdC r bs N).A w) : (rdC r bs N').A w := by
  obtain ⟨p, h1, h2⟩ := h
  exact ⟨p, by omega, h2⟩

end Go.Proofs.YtacecnffggffmaaDoor
