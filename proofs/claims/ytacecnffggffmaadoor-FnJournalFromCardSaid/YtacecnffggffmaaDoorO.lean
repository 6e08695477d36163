/- The arguments of the laws, read: lists of bytes, texts, timers, steps and flows. -/
import Derived.Test.YtacecnffggffmaaDoorL
set_option linter.all false
namespace Go.Proofs.YtacecnffggffmaaDoor

theorem Tryd.own : ownKnob Tryd.prog.godebug = none := by kernel_rfl
theorem Tryd.laidOut : laidOutB Tryd.prog = true := by kernel_rfl

def fieldsOf (P : Program) (t : TypeId) : Array Field := match P.underlying t with | some (.struct fs) => fs | _ => #[]
def fAt (P : Program) (t : TypeId) (i : Nat) : Field := (fieldsOf P t).toList.getD i default

def big : Nat := 140737488351232
def szT (t : Timer) : Prop := fits t.at_ ∧ short t.name
def szS (s : Step) : Prop := short s.name ∧ (s.after.length ≤ 140737488351232 ∧ ∀ x ∈ s.after, short x) ∧ True
def szF (f : Flow) : Prop := fits f.ver ∧ (f.steps.length ≤ 140737488351232 ∧ ∀ x ∈ f.steps, szS x)

theorem opens_as {P : Program} {α : Type} {A : Lay α} {S : α → Prop} {t t' : TypeId} (h : Opens P A S t) (e : t' = t) : Opens P A S t' := e ▸ h

def szR (r : Run) : Prop := fits r.state ∧ (r.done.length ≤ 140737488351232 ∧ ∀ x ∈ r.done, short x)
def szC (c : Change) : Prop := fits c.kind ∧ szS c.step
def szE (e : Event) : Prop := fits e.kind ∧ short e.name

theorem opens_bytes : Opens Tryd.prog bytesL (fun l => l.length ≤ 140737488351232 ∧ ∀ x ∈ l, True) 22 := opens_sl (e := 5) (by kernel_rfl) (by kernel_rfl) (by decide) (by decide +kernel) (opens_u8 (by kernel_rfl))
theorem opens_strs : Opens Tryd.prog strsL (fun l => l.length ≤ 140737488351232 ∧ ∀ x ∈ l, short x) 58 := opens_sl (e := 9) (by kernel_rfl) (by kernel_rfl) (by decide) (by decide +kernel) (opens_str (by kernel_rfl))


end Go.Proofs.YtacecnffggffmaaDoor
