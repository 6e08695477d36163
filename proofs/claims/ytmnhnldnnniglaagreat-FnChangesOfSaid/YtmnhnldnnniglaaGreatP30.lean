/- Changes that lead to another flow: what they are. -/
import Derived.Test.YtmnhnldnnniglaaGreatP19
set_option linter.all false
namespace Go.Proofs.YtmnhnldnnniglaaGreat

/-- All steps of a fine flow stand in its order. -/
theorem ord_all {f : Flow} (hok : flowOk f = true) : ∀ s ∈ f.steps, s.name ∈ ordN f.steps f.steps.length [] := by
  have ho := ord_ordN hok f.steps.length [] (ord_nil _)
  have hl : (ordN f.steps f.steps.length []).length = f.steps.length := by
    unfold flowOk at hok
    simp only [Bool.and_eq_true] at hok
    have := eqb_true.1 hok.2.2.2
    omega
  intro s hs
  by_cases h : s.name ∈ ordN f.steps f.steps.length []
  · exact h
  · exfalso
    have hn : (s.name :: ordN f.steps f.steps.length []).Nodup := List.nodup_cons.2 ⟨h, ord_nodup ho⟩
    have := sub_len (a := s.name :: ordN f.steps f.steps.length []) (b := f.steps.map (·.name)) hn (fun x hx => by
      rcases List.mem_cons.1 hx with e | e
      · rw [e]; exact List.mem_map_of_mem hs
      · exact hasB_true.1 (ord_mem ho x e))
    simp only [List.length_cons, List.length_map] at this
    omega

def stepOf (steps : List Step) (n : Str) : Step := match steps[(posOf (·.name) steps n).toNat]? with | some s => s | none => ⟨⟨#[]⟩, [], false⟩
def freeP (g : Flow) (s : Step) : Bool := hasB (g.steps.map (·.name)) s.name && (ltb 0 ((s.after.length : Nat) : Int) && !decide (s.after = (stepOf g.steps s.name).after))
def chFree (f g : Flow) : List Change := (f.steps.filter (freeP g)).map fun s => ⟨3, ⟨s.name, [], false⟩⟩
def chGone (f g : Flow) : List Change := (((ordN f.steps f.steps.length []).reverse).filter fun n => !hasB (g.steps.map (·.name)) n).map fun n => ⟨2, ⟨n, [], false⟩⟩
def madeOf (f g : Flow) (n : Str) : List Change :=
  bif !hasB (f.steps.map (·.name)) n then [⟨1, stepOf g.steps n⟩]
  else (bif ltb 0 (((stepOf g.steps n).after.length : Nat) : Int) && !decide ((stepOf g.steps n).after = (stepOf f.steps n).after) then [⟨3, ⟨n, (stepOf g.steps n).after, false⟩⟩] else []) ++
    (bif (stepOf g.steps n).undo != (stepOf f.steps n).undo then [⟨4, ⟨n, [], (stepOf g.steps n).undo⟩⟩] else [])
def chMade (f g : Flow) : List Change := (ordN g.steps g.steps.length []).flatMap (madeOf f g)
def bothF (f g : Flow) : Bool := (f.steps.map (·.name)).any (hasB (g.steps.map (·.name)))
def chOf (f g : Flow) : List Change × Bool := bif flowOk f && (flowOk g && bothF f g) then (chFree f g ++ chGone f g ++ chMade f g, true) else ([], false)

end Go.Proofs.YtmnhnldnnniglaaGreat
