/- What the mirrors of the flows' functions compute. -/
import Derived.Test.YtacecnffggffmaaDoorPN
import Derived.Test.YtacecnffggffmaaDoorP2
set_option linter.all false
namespace Go.Proofs.YtacecnffggffmaaDoor

/-! ## Three more loops -/

def allIdx {α : Type} (p : Nat → α → Bool) : Nat → List α → Bool
  | _, [] => true
  | k, x :: t => p k x && allIdx p (k + 1) t
theorem allIdx_true {α : Type} {p : Nat → α → Bool} : ∀ {l : List α} {k : Nat}, allIdx p k l = true ↔ ∀ i (h : i < l.length), p (k + i) l[i] = true
  | [], k => by simp [allIdx]
  | x :: t, k => by
    rw [allIdx, Bool.and_eq_true, allIdx_true]
    constructor
    · rintro ⟨h1, h2⟩ i hi
      cases i with
      | zero => exact h1
      | succ i => have := h2 i (by simpa using hi); simpa [Nat.add_assoc, Nat.add_comm 1 i] using this
    · intro h
      refine ⟨h 0 (by simp), fun i hi => ?_⟩
      have := h (i + 1) (by simpa using hi)
      simpa [Nat.add_assoc, Nat.add_comm 1 i] using this
theorem allIdx_all {α : Type} {p : α → Bool} : ∀ {l : List α} {k : Nat}, allIdx (fun _ x => p x) k l = l.all p
  | [], _ => rfl
  | x :: t, k => by rw [allIdx, allIdx_all, List.all_cons]

theorem all_list {α β R : Type} (p : Nat → α → Bool) (r : R) (F : Nat → Nat → Option (Ex β R)) (l : List α) (b : Nat → β) (N : Nat) (hN : l.length < N)
    (hn : ∀ n k, k = l.length → F (n + 1) k = some (.brk (b k)))
    (hF : ∀ n k (h : k < l.length), F (n + 1) k = bif p k l[k] then F n (k + 1) else some (.ret r)) : F N 0 = some (bif allIdx p 0 l then .brk (b l.length) else .ret r) := by
  rw [loop0 (fun n (_ : Unit) k => F n k) l (fun k x _ => bif p k x then .inr () else .inl r) (fun k _ => b k) N hN (fun n _ k h => hn n k h) (fun n _ k h => by rw [hF n k h]; cases p k l[k] <;> rfl) ()]
  refine congrArg some ?_
  have key : ∀ (t : List α) (k : Nat), goL (fun k x (_ : Unit) => bif p k x then .inr () else .inl r) (fun k _ => b k) t k () = bif allIdx p k t then .brk (b (k + t.length)) else .ret r := by
    intro t
    induction t with
    | nil => intro k; rfl
    | cons x t ih =>
      intro k
      unfold goL allIdx
      cases p k x with
      | false => rfl
      | true => simp only [cond_true, Bool.true_and]; rw [ih (k + 1)]; simp only [List.length_cons, Nat.add_assoc, Nat.add_comm 1]
  have := key l 0
  rwa [Nat.zero_add] at this

theorem find_list {α β R : Type} (p : α → Bool) (r : Nat → R) (F : Nat → Nat → Option (Ex β R)) (l : List α) (b : Nat → β) (N : Nat) (hN : l.length < N)
    (hn : ∀ n k, k = l.length → F (n + 1) k = some (.brk (b k)))
    (hF : ∀ n k (h : k < l.length), F (n + 1) k = bif p l[k] then some (.ret (r k)) else F n (k + 1)) : F N 0 = some (match l.findIdx? p with | some i => .ret (r i) | none => .brk (b l.length)) := by
  rw [loop0 (fun n (_ : Unit) k => F n k) l (fun k x _ => bif p x then .inl (r k) else .inr ()) (fun k _ => b k) N hN (fun n _ k h => hn n k h) (fun n _ k h => by rw [hF n k h]; cases p l[k] <;> rfl) ()]
  rw [goL_find p r]
  simp only [Nat.zero_add]
  cases l.findIdx? p <;> rfl

theorem pick_list {α γ β R : Type} (p : α → Bool) (g : α → γ) (F : Nat → List γ → Nat → Option (Ex β R)) (l : List α) (b : Nat → List γ → β) (N : Nat) (hN : l.length < N)
    (hn : ∀ n s k, k = l.length → F (n + 1) s k = some (.brk (b k s)))
    (hF : ∀ n s k (h : k < l.length), s.length ≤ k → F (n + 1) s k = bif p l[k] then F n (s ++ [g l[k]]) (k + 1) else F n s (k + 1)) : F N [] 0 = some (.brk (b l.length ((l.filter p).map g))) := by
  rw [loop_inv F l (fun _ x s => .inr (bif p x then s ++ [g x] else s)) b N hN (fun k s => s.length ≤ k) (fun n s k h _ => hn n s k h) (fun n s k h hi => by rw [hF n s k h hi]; cases p l[k] <;> rfl) (fun s k h s' hi he => by
    injection he with he
    subst he
    cases p l[k] <;> simp <;> omega) [] (Nat.le_refl _)]
  rw [goL_fold (fun (x : α) (s : List γ) => bif p x then s ++ [g x] else s), Nat.zero_add]
  have key : ∀ (t : List α) (s : List γ), t.foldl (fun s x => bif p x then s ++ [g x] else s) s = s ++ (t.filter p).map g := by
    intro t
    induction t with
    | nil => intro s; simp
    | cons x t ih => intro s; rw [List.foldl_cons, ih]; cases h : p x <;> simp [h]
  rw [key]
  rfl

/-! ## Lists of texts -/

theorem posOf_mem {α : Type} {f : α → Str} {l : List α} {s : Str} : 0 ≤ posOf f l s ↔ ∃ x ∈ l, f x = s := by
  rcases posOf_cases f l s with h | h
  rotate_left
  · obtain ⟨i, hi, h1, h2, _⟩ := h
    exact ⟨fun _ => ⟨l[i], List.getElem_mem hi, h2⟩, fun _ => by omega⟩
  · rw [h.1]
    refine ⟨fun h => by omega, fun ⟨x, hx, hs⟩ => ?_⟩
    obtain ⟨i, hi, rfl⟩ := List.getElem_of_mem hx
    exact absurd hs (h.2 i hi)
def hasB (l : List Str) (s : Str) : Bool := l.any fun x => decide (x = s)
theorem hasB_true {l : List Str} {s : Str} : hasB l s = true ↔ s ∈ l := by unfold hasB; simp
theorem hasB_pos {l : List Str} {s : Str} : leb 0 (posOf id l s) = hasB l s := by
  rw [Bool.eq_iff_iff, leb_true, posOf_mem, hasB_true]
  exact ⟨fun ⟨x, hx, h⟩ => h ▸ hx, fun h => ⟨s, h, rfl⟩⟩
theorem hasB_neg {l : List Str} {s : Str} : ltb (posOf id l s) 0 = !hasB l s := by
  rw [← hasB_pos]
  by_cases h : posOf id l s < 0
  · rw [ltb_true.2 h, leb_false.2 h]; rfl
  · rw [ltb_false.2 (by omega), leb_true.2 (by omega)]; rfl
theorem hasB_map {α : Type} {f : α → Str} {l : List α} {s : Str} : ltb (posOf f l s) 0 = !hasB (l.map f) s := by
  have : 0 ≤ posOf f l s ↔ hasB (l.map f) s = true := by rw [posOf_mem, hasB_true]; simp
  cases h : hasB (l.map f) s with
  | true => rw [ltb_false.2 (by have := this.2 h; omega)]; rfl
  | false => rw [ltb_true.2 (by have := fun x => this.1 x; rw [h] at this; exact Int.not_le.1 fun x => by have := this x; cases this)]; rfl
def haveB (l names : List Str) : Bool := names.all (hasB l)

theorem pos_find {α : Type} {f : α → Str} {l : List α} {s : Str} {β : Type} (b : β) : ((match l.findIdx? (fun x => decide (f x = s)) with | some i => Ex.ret ((i : Nat) : Int) | none => Ex.brk b).go (fun r => r) fun _ => some (-1)) = some (posOf f l s) := by
  unfold posOf
  cases l.findIdx? (fun x => decide (f x = s)) <;> rfl

/-- A list of names, each behind the one before it. -/
def ascP (l : List Str) (k : Nat) (x : Str) : Bool := nameOk x && (decide (k = 0) || match l[k-1]? with | some y => slt y x | none => false)
def ascOk (l : List Str) : Bool := allIdx (ascP l) 0 l
def shortL (l : List Str) (B : Nat) : Prop := l.length ≤ B ∧ ∀ x ∈ l, x.size ≤ B

theorem slt_not {x y : Str} : (slt x y || seq x y) = !slt y x := by
  cases h : slt y x with
  | true => rw [slt_asymm h, seq_false.2 (fun e => slt_ne h e.symm)]; rfl
  | false =>
    cases h2 : slt x y with
    | true => rfl
    | false => rw [slt_tri h2 h, seq_self]; rfl

def stepOk (s : Step) : Bool := ascOk s.after && nameOk s.name && !hasB s.after s.name && leb (s.after.length : Nat) 4
def smallS (s : Step) (B : Nat) : Prop := s.name.size ≤ B ∧ shortL s.after B
def smallF (f : Flow) (B : Nat) : Prop := f.steps.length ≤ B ∧ ∀ s ∈ f.steps, smallS s B

/-! ## The order of a flow's steps -/

def free (d : List Str) (s : Step) : Bool := !hasB d s.name && haveB d s.after
def left (steps : List Step) (d : List Str) : Nat := (steps.filter fun s => !hasB d s.name).length
def ordN (steps : List Step) : Nat → List Str → List Str
  | 0, d => d
  | n + 1, d => match steps.find? (free d) with
    | none => d
    | some s => ordN steps n (d ++ [s.name])

theorem left_lt {steps : List Step} {d : List Str} {s : Step} (h : steps.find? (free d) = some s) : left steps (d ++ [s.name]) < left steps d := by
  have hm := List.mem_of_find?_eq_some h
  have hp := List.find?_some h
  unfold free at hp
  rw [Bool.and_eq_true, Bool.not_eq_true'] at hp
  clear h
  unfold left
  have mono : ∀ (l : List Step), (l.filter fun t => !hasB (d ++ [s.name]) t.name).length ≤ (l.filter fun t => !hasB d t.name).length := by
    intro l
    induction l with
    | nil => simp
    | cons t l ih =>
      have e : hasB (d ++ [s.name]) t.name = (hasB d t.name || decide (s.name = t.name)) := by unfold hasB; simp
      simp only [List.filter_cons, e]
      cases hasB d t.name <;> cases decide (s.name = t.name) <;> simp <;> omega
  induction steps with
  | nil => cases hm
  | cons t l ih =>
    have e : hasB (d ++ [s.name]) t.name = (hasB d t.name || decide (s.name = t.name)) := by unfold hasB; simp
    rcases List.mem_cons.1 hm with rfl | hm
    · simp only [List.filter_cons, e, hp.1]
      have := mono l
      simp
      omega
    · have := ih hm
      simp only [List.filter_cons, e]
      cases hasB d t.name <;> cases decide (s.name = t.name) <;> simp <;> omega

theorem left_le (steps : List Step) (d : List Str) : left steps d ≤ steps.length := List.length_filter_le _ _
theorem find_idx {α : Type} (p : α → Bool) : ∀ (l : List α), l.find? p = (l.findIdx? p).bind fun i => l[i]?
  | [] => rfl
  | x :: t => by
    rw [List.find?_cons, List.findIdx?_cons, find_idx p t]
    cases p x with
    | true => rfl
    | false => cases t.findIdx? p <;> simp
def ordStep (l : List Step) (d : List Str) : List Str := match l.find? (free d) with | some s => d ++ [s.name] | none => d
theorem ordN_fold (l : List Step) : ∀ (t : List Step) (d : List Str), t.foldl (fun d _ => ordStep l d) d = ordN l t.length d
  | [], d => rfl
  | _ :: t, d => by
    rw [List.foldl_cons, ordN_fold l t, List.length_cons, ordN]
    cases h : l.find? (free d) with
    | some s => unfold ordStep; rw [h]
    | none =>
      have : ordStep l d = d := by unfold ordStep; rw [h]
      rw [this]
      cases t.length with
      | zero => rfl
      | succ n => rw [ordN, h]

end Go.Proofs.YtacecnffggffmaaDoor
