/- Steps without one; a change is made. -/
import Derived.Test.YthmifmpllgofkaaP13
set_option linter.all false
namespace Go.Proofs.Ythmifmpllgofkaa

theorem smallS.up {s : Step} {B C : Nat} (h : smallS s B) (hBC : B ≤ C) : smallS s C := ⟨Nat.le_trans h.1 hBC, Nat.le_trans h.2.1 hBC, fun x hx => Nat.le_trans (h.2.2 x hx) hBC⟩

end Go.Proofs.Ythmifmpllgofkaa
