/- The arguments of the laws, read: lists of bytes, texts, timers, steps and flows. -/
import Derived.Test.YtmnhnldnnniglaaGreatL
set_option linter.all false
namespace Go.Proofs.YtmnhnldnnniglaaGreat

theorem Tryz.own : ownKnob Tryz.prog.godebug = none := by kernel_rfl
theorem Tryz.laidOut : laidOutB Tryz.prog = true := by kernel_rfl

def fieldsOf (P : Program) (t : TypeId) : Array Field := match P.underlying t with | some (.struct fs) => fs | _ => #[]
def fAt (P : Program) (t : TypeId) (i : Nat) : Field := (fieldsOf P t).toList.getD i default

def big : Nat := 140737488351232
def szT (t : Timer) : Prop := fits t.at_ ∧ short t.name
def szS (s : Step) : Prop := short s.name ∧ (s.after.length ≤ 140737488351232 ∧ ∀ x ∈ s.after, short x) ∧ True
def szF (f : Flow) : Prop := fits f.ver ∧ (f.steps.length ≤ 140737488351232 ∧ ∀ x ∈ f.steps, szS x)

theorem opens_as {P : Program} {α : Type} {A : Lay α} {S : α → Prop} {t t' : TypeId} (h : Opens P A S t) (e : t' = t) : Opens P A S t' := e ▸ h

def szR (r : Run) : Prop := fits r.state ∧ (r.done.length ≤ 140737488351232 ∧ ∀ x ∈ r.done, short x)
def szC (c : Change) : Prop := fits c.kind ∧ szS c.step
def szE (e : Event) : Prop := fits e.kind ∧ short e.name

theorem opens_bytes : Opens Tryz.prog bytesL (fun l => l.length ≤ 140737488351232 ∧ ∀ x ∈ l, True) 22 := opens_sl (e := 5) (by kernel_rfl) (by kernel_rfl) (by decide) (by decide +kernel) (opens_u8 (by kernel_rfl))
theorem opens_strs : Opens Tryz.prog strsL (fun l => l.length ≤ 140737488351232 ∧ ∀ x ∈ l, short x) 47 := opens_sl (e := 9) (by kernel_rfl) (by kernel_rfl) (by decide) (by decide +kernel) (opens_str (by kernel_rfl))

theorem opens_ints : Opens Tryz.prog intsL (fun l => l.length ≤ 140737488351232 ∧ ∀ x ∈ l, fits x) 105 := opens_sl (e := 3) (by kernel_rfl) (by kernel_rfl) (by decide) (by decide +kernel) (opens_int (by kernel_rfl))

theorem opens_step : Opens Tryz.prog stepL szS 81 := opens_map (opens_st3 (f0 := fAt Tryz.prog 81 0) (f1 := fAt Tryz.prog 81 1) (f2 := fAt Tryz.prog 81 2) (fs := fieldsOf Tryz.prog 81) (by kernel_rfl) (by kernel_rfl) (by kernel_rfl) (by kernel_rfl) (by kernel_rfl) (by kernel_rfl) (by kernel_rfl) (by kernel_rfl) (by kernel_rfl) (opens_str (by kernel_rfl)) (opens_as opens_strs (by kernel_rfl)) (opens_bool (by kernel_rfl))) (fun x => ⟨x.1, x.2.1, x.2.2⟩) (fun w cs x h => h) (fun x h => h)
theorem opens_steps : Opens Tryz.prog stepsL (fun l => l.length ≤ 140737488351232 ∧ ∀ x ∈ l, szS x) 36 := opens_sl (e := 81) (by kernel_rfl) (by kernel_rfl) (by decide) (by decide +kernel) opens_step
theorem opens_flow : Opens Tryz.prog flowL szF 38 := opens_map (opens_st2 (f0 := fAt Tryz.prog 38 0) (f1 := fAt Tryz.prog 38 1) (fs := fieldsOf Tryz.prog 38) (by kernel_rfl) (by kernel_rfl) (by kernel_rfl) (by kernel_rfl) (by kernel_rfl) (by kernel_rfl) (by kernel_rfl) (opens_int (by kernel_rfl)) (opens_as opens_steps (by kernel_rfl))) (fun x => ⟨x.1, x.2⟩) (fun w cs x h => h) (fun x h => h)
theorem opens_change : Opens Tryz.prog changeL szC 83 := opens_map (opens_st2 (f0 := fAt Tryz.prog 83 0) (f1 := fAt Tryz.prog 83 1) (fs := fieldsOf Tryz.prog 83) (by kernel_rfl) (by kernel_rfl) (by kernel_rfl) (by kernel_rfl) (by kernel_rfl) (by kernel_rfl) (by kernel_rfl) (opens_int (by kernel_rfl)) (opens_as opens_step (by kernel_rfl))) (fun x => ⟨x.1, x.2⟩) (fun w cs x h => h) (fun x h => h)
theorem opens_changes : Opens Tryz.prog changesL (fun l => l.length ≤ 140737488351232 ∧ ∀ x ∈ l, szC x) 39 := opens_sl (e := 83) (by kernel_rfl) (by kernel_rfl) (by decide) (by decide +kernel) opens_change
end Go.Proofs.YtmnhnldnnniglaaGreat
