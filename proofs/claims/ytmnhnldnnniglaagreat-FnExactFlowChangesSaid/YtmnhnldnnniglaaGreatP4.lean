/- What the mirrors of the flows' functions compute. -/
import Derived.Test.YtmnhnldnnniglaaGreatPN
import Derived.Test.YtmnhnldnnniglaaGreatP2
set_option linter.all false
namespace Go.Proofs.YtmnhnldnnniglaaGreat

/-! ## Three more loops -/

def allIdx {α : Type} (p : Nat → α → Bool) : Nat → List α → Bool
  | _, [] => true
  | k, x :: t => p k x && allIdx p (k + 1) t
theorem allIdx_true {α : Type} {p : Nat → α → Bool} : ∀ {l : List α} {k : Nat}, allIdx p k l = true ↔ ∀ i (h : i < l.length), p (k + i) l[i] = true
  | [], k => by simp [allIdx]
  | x :: t, k => by
    rw [allIdx, Bool.and_eq_true, allIdx_true]
    constructor
    · rintro ⟨h1, h2⟩ i hi
      cases i with
      | zero => exact h1
      | succ i => have := h2 i (by simpa using hi); simpa [Nat.add_assoc, Nat.add_comm 1 i] using this
    · intro h
      refine ⟨h 0 (by simp), fun i hi => ?_⟩
      have := h (i + 1) (by simpa using hi)
      simpa [Nat.add_assoc, Nat.add_comm 1 i] using this
theorem allIdx_all {α : Type} {p : α → Bool} : ∀ {l : List α} {k : Nat}, allIdx (fun _ x => p x) k l = l.all p
  | [], _ => rfl
  | x :: t, k => by rw [allIdx, allIdx_all, List.all_cons]

theorem all_list {α β R : Type} (p : Nat → α → Bool) (r : R) (F : Nat → Nat → Option (Ex β R)) (l : List α) (b : Nat → β) (N : Nat) (hN : l.length < N)
    (hn : ∀ n k, k = l.length → F (n + 1) k = some (.brk (b k)))
    (hF : ∀ n k (h : k < l.length), F (n + 1) k = bif p k l[k] then F n (k + 1) else some (.ret r)) : F N 0 = some (bif allIdx p 0 l then .brk (b l.length) else .ret r) := by
  rw [loop0 (fun n (_ : Unit) k => F n k) l (fun k x _ => bif p k x then .inr () else .inl r) (fun k _ => b k) N hN (fun n _ k h => hn n k h) (fun n _ k h => by rw [hF n k h]; cases p k l[k] <;> rfl) ()]
  refine congrArg some ?_
  have key : ∀ (t : List α) (k : Nat), goL (fun k x (_ : Unit) => bif p k x then .inr () else .inl r) (fun k _ => b k) t k () = bif allIdx p k t then .brk (b (k + t.length)) else .ret r := by
    intro t
    induction t with
    | nil => intro k; rfl
    | cons x t ih =>
      intro k
      unfold goL allIdx
      cases p k x with
      | false => rfl
      | true => simp only [cond_true, Bool.true_and]; rw [ih (k + 1)]; simp only [List.length_cons, Nat.add_assoc, Nat.add_comm 1]
  have := key l 0
  rwa [Nat.zero_add] at this

theorem find_list {α β R : Type} (p : α → Bool) (r : Nat → R) (F : Nat → Nat → Option (Ex β R)) (l : List α) (b : Nat → β) (N : Nat) (hN : l.length < N)
    (hn : ∀ n k, k = l.length → F (n + 1) k = some (.brk (b k)))
    (hF : ∀ n k (h : k < l.length), F (n + 1) k = bif p l[k] then some (.ret (r k)) else F n (k + 1)) : F N 0 = some (match l.findIdx? p with | some i => .ret (r i) | none => .brk (b l.length)) := by
  rw [loop0 (fun n (_ : Unit) k => F n k) l (fun k x _ => bif p x then .inl (r k) else .inr ()) (fun k _ => b k) N hN (fun n _ k h => hn n k h) (fun n _ k h => by rw [hF n k h]; cases p l[k] <;> rfl) ()]
  rw [goL_find p r]
  simp only [Nat.zero_add]
  cases l.findIdx? p <;> rfl

theorem pick_list {α γ β R : Type} (p : α → Bool) (g : α → γ) (F : Nat → List γ → Nat → Option (Ex β R)) (l : List α) (b : Nat → List γ → β) (N : Nat) (hN : l.length < N)
    (hn : ∀ n s k, k = l.length → F (n + 1) s k = some (.brk (b k s)))
    (hF : ∀ n s k (h : k < l.length), s.length ≤ k → F (n + 1) s k = bif p l[k] then F n (s ++ [g l[k]]) (k + 1) else F n s (k + 1)) : F N [] 0 = some (.brk (b l.length ((l.filter p).map g))) := by
  rw [loop_inv F l (fun _ x s => .inr (bif p x then s ++ [g x] else s)) b N hN (fun k s => s.length ≤ k) (fun n s k h _ => hn n s k h) (fun n s k h hi => by rw [hF n s k h hi]; cases p l[k] <;> rfl) (fun s k h s' hi he => by
    injection he with he
    subst he
    cases p l[k] <;> simp <;> omega) [] (Nat.le_refl _)]
  rw [goL_fold (fun (x : α) (s : List γ) => bif p x then s ++ [g x] else s), Nat.zero_add]
  have key : ∀ (t : List α) (s : List γ), t.foldl (fun s x => bif p x then s ++ [g x] else s) s = s ++ (t.filter p).map g := by
    intro t
    induction t with
    | nil => intro s; simp
    | cons x t ih => intro s; rw [List.foldl_cons, ih]; cases h : p x <;> simp [h]
  rw [key]
  rfl

/-! ## Lists of texts -/

theorem posOf_mem {α : Type} {f : α → Str} {l : List α} {s : Str} : 0 ≤ posOf f l s ↔ ∃ x ∈ l, f x = s := by
  rcases posOf_cases f l s with h | h
  rotate_left
  · obtain ⟨i, hi, h1, h2, _⟩ := h
    exact ⟨fun _ => ⟨l[i], List.getElem_mem hi, h2⟩, fun _ => by omega⟩
  · rw [h.1]
    refine ⟨fun h => by omega, fun ⟨x, hx, hs⟩ => ?_⟩
    obtain ⟨i, hi, rfl⟩ := List.getElem_of_mem hx
    exact absurd hs (h.2 i hi)
def hasB (l : List Str) (s : Str) : Bool := l.any fun x => decide (x = s)
theorem hasB_true {l : List Str} {s : Str} : hasB l s = true ↔ s ∈ l := by unfold hasB; simp
theorem hasB_pos {l : List Str} {s : Str} : leb 0 (posOf id l s) = hasB l s := by
  rw [Bool.eq_iff_iff, leb_true, posOf_mem, hasB_true]
  exact ⟨fun ⟨x, hx, h⟩ => h ▸ hx, fun h => ⟨s, h, rfl⟩⟩
theorem hasB_neg {l : List Str} {s : Str} : ltb (posOf id l s) 0 = !hasB l s := by
  rw [← hasB_pos]
  by_cases h : posOf id l s < 0
  · rw [ltb_true.2 h, leb_false.2 h]; rfl
  · rw [ltb_false.2 (by omega), leb_true.2 (by omega)]; rfl
theorem hasB_map {α : Type} {f : α → Str} {l : List α} {s : Str} : ltb (posOf f l s) 0 = !hasB (l.map f) s := by
  have : 0 ≤ posOf f l s ↔ hasB (l.map f) s = true := by rw [posOf_mem, hasB_true]; simp
  cases h : hasB (l.map f) s with
  | true => rw [ltb_false.2 (by have := this.2 h; omega)]; rfl
  | false => rw [ltb_true.2 (by have := fun x => this.1 x; rw [h] at this; exact Int.not_le.1 fun x => by have := this x; cases this)]; rfl
def haveB (l names : List Str) : Bool := names.all (hasB l)

theorem pos_find {α : Type} {f : α → Str} {l : List α} {s : Str} {β : Type} (b : β) : ((match l.findIdx? (fun x => decide (f x = s)) with | some i => Ex.ret ((i : Nat) : Int) | none => Ex.brk b).go (fun r => r) fun _ => some (-1)) = some (posOf f l s) := by
  unfold posOf
  cases l.findIdx? (fun x => decide (f x = s)) <;> rfl

theorem e_Index {N : Nat} {l : List Str} {s : Str} (hN : l.length < N) : m_slices_Index_string N l s = some (posOf id l s) := by
  unfold m_slices_Index_string
  rw [find_list (fun x => decide (id x = s)) (fun k => (k : Int)) (fun n k => m_slices_Index_string_L4 N l s n k) l (fun k => k) N hN ?_ ?_, Option.bind_some, pos_find (f := id)]
  · rintro n k rfl
    simp only [m_slices_Index_string_L4]
    rw [ltb_false.2 (by omega)]; rfl
  · intro n k h
    simp only [m_slices_Index_string_L4]
    rw [ltb_true.2 (by omega), cond_true, List.getElem?_eq_getElem h, Option.bind_some, seq_dec]
    rw [show decide (s = l[k]) = decide (id l[k] = s) by rw [Bool.eq_iff_iff]; simp [eq_comm]]
theorem e_Contains {N : Nat} {l : List Str} {s : Str} (hN : l.length < N) : m_slices_Contains_string N l s = some (hasB l s) := by
  unfold m_slices_Contains_string
  rw [e_Index hN, Option.bind_some, hasB_pos]
theorem e_l1At {N : Nat} {l : List Str} {s : Str} (hN : l.length < N) : m_spec_l1At N l s = some (posOf id l s) := by
  unfold m_spec_l1At
  rw [find_list (fun x => decide (id x = s)) (fun k => (k : Int)) (fun n k => m_spec_l1At_L4 N l s n k) l (fun k => k) N hN ?_ ?_, Option.bind_some, pos_find (f := id)]
  · rintro n k rfl
    simp only [m_spec_l1At_L4]
    rw [ltb_false.2 (by omega)]; rfl
  · intro n k h
    simp only [m_spec_l1At_L4]
    rw [ltb_true.2 (by omega), cond_true, List.getElem?_eq_getElem h, Option.bind_some, seq_dec]
    rfl
theorem e_l2At {N : Nat} {l : List Step} {s : Str} (hN : l.length < N) : m_spec_l2At N l s = some (posOf (·.name) l s) := by
  unfold m_spec_l2At
  rw [find_list (fun x : Step => decide (x.name = s)) (fun k => (k : Int)) (fun n k => m_spec_l2At_L4 N l s n k) l (fun k => k) N hN ?_ ?_, Option.bind_some, pos_find (f := fun x : Step => x.name)]
  · rintro n k rfl
    simp only [m_spec_l2At_L4]
    rw [ltb_false.2 (by omega)]; rfl
  · intro n k h
    simp only [m_spec_l2At_L4]
    rw [ltb_true.2 (by omega), cond_true, List.getElem?_eq_getElem h, Option.bind_some, seq_dec]
theorem e_Flow_at {N : Nat} {f : Flow} {s : Str} (hN : f.steps.length < N) : m_impl_Flow_at N f s = some (posOf (·.name) f.steps s) := by
  unfold m_impl_Flow_at m_slices_IndexFunc_Step
  rw [find_list (fun x : Step => decide (x.name = s)) (fun k => (k : Int)) (fun n k => m_slices_IndexFunc_Step_L4 N f.steps (fun x0 => m_impl_Flow_at_f1 N x0 s) n k) f.steps (fun k => k) N hN ?_ ?_, Option.bind_some, pos_find (f := fun x : Step => x.name)]
  · rfl
  · rintro n k rfl
    simp only [m_slices_IndexFunc_Step_L4]
    rw [ltb_false.2 (by omega)]; rfl
  · intro n k h
    simp only [m_slices_IndexFunc_Step_L4, m_impl_Flow_at_f1]
    rw [ltb_true.2 (by omega), cond_true, List.getElem?_eq_getElem h, Option.bind_some, Option.bind_some, seq_dec]
theorem e_NamesHave {N : Nat} {l names : List Str} (hN : l.length < N) (hM : names.length < N) : m_impl_NamesHave N l names = some (haveB l names) := by
  unfold m_impl_NamesHave
  rw [all_list (fun _ x => hasB l x) false (fun n k => m_impl_NamesHave_L4 N l names n k) names (fun k => k) N hM ?_ ?_, allIdx_all]
  · unfold haveB; cases names.all (hasB l) <;> rfl
  · rintro n k rfl
    simp only [m_impl_NamesHave_L4]
    rw [ltb_false.2 (by omega)]; rfl
  · intro n k h
    simp only [m_impl_NamesHave_L4]
    rw [ltb_true.2 (by omega), cond_true, List.getElem?_eq_getElem h, Option.bind_some, e_Contains hN, Option.bind_some]
    cases hasB l names[k] <;> rfl
theorem e_l1Have {N : Nat} {l names : List Str} (hN : l.length < N) (hM : names.length < N) : m_spec_l1Have N l names = some (haveB l names) := by
  unfold m_spec_l1Have
  rw [all_list (fun _ x => hasB l x) false (fun n k => m_spec_l1Have_L4 N l names n k) names (fun k => k) N hM ?_ ?_, allIdx_all]
  · unfold haveB; cases names.all (hasB l) <;> rfl
  · rintro n k rfl
    simp only [m_spec_l1Have_L4]
    rw [ltb_false.2 (by omega)]; rfl
  · intro n k h
    simp only [m_spec_l1Have_L4]
    rw [ltb_true.2 (by omega), cond_true, List.getElem?_eq_getElem h, Option.bind_some, e_l1At hN, Option.bind_some, hasB_neg]
    cases hasB l names[k] <;> rfl

/-- A list of names, each behind the one before it. -/
def ascP (l : List Str) (k : Nat) (x : Str) : Bool := nameOk x && (decide (k = 0) || match l[k-1]? with | some y => slt y x | none => false)
def ascOk (l : List Str) : Bool := allIdx (ascP l) 0 l
def shortL (l : List Str) (B : Nat) : Prop := l.length ≤ B ∧ ∀ x ∈ l, x.size ≤ B

theorem slt_not {x y : Str} : (slt x y || seq x y) = !slt y x := by
  cases h : slt y x with
  | true => rw [slt_asymm h, seq_false.2 (fun e => slt_ne h e.symm)]; rfl
  | false =>
    cases h2 : slt x y with
    | true => rfl
    | false => rw [slt_tri h2 h, seq_self]; rfl

theorem e_namesAscend {N B : Nat} {l : List Str} (hl : shortL l B) (hB : B ≤ 4611686018427387904) (hN : B < N) : m_impl_namesAscend N l = some (ascOk l) := by
  unfold m_impl_namesAscend
  rw [all_list (ascP l) false (fun n k => m_impl_namesAscend_L4 N l n k) l (fun k => k) N (by have := hl.1; omega) ?_ ?_]
  · unfold ascOk; cases allIdx (ascP l) 0 l <;> rfl
  · rintro n k rfl
    simp only [m_impl_namesAscend_L4]
    rw [ltb_false.2 (by omega)]; rfl
  · intro n k h
    simp only [m_impl_namesAscend_L4]
    have hs := hl.2 l[k] (List.getElem_mem h)
    rw [ltb_true.2 (by omega), cond_true, List.getElem?_eq_getElem h, Option.bind_some, e_impl_NameValid (by omega) (by omega), Option.bind_some]
    unfold ascP
    cases nameOk l[k] with
    | false => rfl
    | true =>
      rcases Nat.eq_zero_or_pos k with h0 | h0
      · subst h0
        rw [ltb_false.2 (by omega)]; rfl
      · rw [ltb_true.2 (by omega), show ((k : Nat) : Int) - 1 = ((k - 1 : Nat) : Int) by omega, geti_nat, List.getElem?_eq_getElem (by omega), Option.bind_some, slt_not]
        simp only [Bool.not_true, cond_false, cond_true, Bool.true_and, show decide (k = 0) = false by simp; omega, Bool.false_or]
        cases slt l[k-1] l[k] <;> rfl

def stepOk (s : Step) : Bool := ascOk s.after && nameOk s.name && !hasB s.after s.name && leb (s.after.length : Nat) 4
def smallS (s : Step) (B : Nat) : Prop := s.name.size ≤ B ∧ shortL s.after B
def smallF (f : Flow) (B : Nat) : Prop := f.steps.length ≤ B ∧ ∀ s ∈ f.steps, smallS s B

theorem e_impl_StepValid {N B : Nat} {s : Step} (hl : smallS s B) (hB : B ≤ 4611686018427387904) (hN : B < N) : m_impl_StepValid N s = some (stepOk s) := by
  have h1 := hl.1
  have h2 := hl.2.1
  unfold m_impl_StepValid stepOk
  rw [e_impl_NameValid (by omega) (by omega), Option.bind_some, e_namesAscend hl.2 hB hN, e_Contains (by omega)]
  cases nameOk s.name <;> cases leb (s.after.length : Nat) 4 <;> cases ascOk s.after <;> cases hasB s.after s.name <;> rfl

theorem e_spec_StepValid {N B : Nat} {s : Step} (hl : smallS s B) (hB : B ≤ 4611686018427387904) (hN : B < N) : m_spec_StepValid N s = some (stepOk s) := by
  have h1 := hl.1
  have h2 := hl.2.1
  unfold m_spec_StepValid stepOk
  rw [all_list (ascP s.after) false (fun n k => m_spec_StepValid_L5 N s n k) s.after (fun k => k) N (by omega) ?_ ?_, Option.bind_some]
  · rw [e_spec_NameValid (by omega) (by omega), e_l1At (by omega)]
    unfold ascOk
    cases allIdx (ascP s.after) 0 s.after with
    | false => rfl
    | true =>
      simp only [cond_true, Ex.go, Option.bind_some, hasB_neg]
      cases nameOk s.name <;> cases leb (s.after.length : Nat) 4 <;> cases hasB s.after s.name <;> rfl
  · rintro n k rfl
    simp only [m_spec_StepValid_L5]
    rw [ltb_false.2 (by omega)]; rfl
  · intro n k h
    simp only [m_spec_StepValid_L5]
    have hs := hl.2.2 s.after[k] (List.getElem_mem h)
    rw [ltb_true.2 (by omega), cond_true, List.getElem?_eq_getElem h, Option.bind_some, e_spec_NameValid (by omega) (by omega), Option.bind_some]
    unfold ascP
    cases nameOk s.after[k] with
    | false => rfl
    | true =>
      rcases Nat.eq_zero_or_pos k with h0 | h0
      · subst h0
        rw [ltb_false.2 (by omega)]; rfl
      · rw [ltb_true.2 (by omega), show ((k : Nat) : Int) - 1 = ((k - 1 : Nat) : Int) by omega, geti_nat, List.getElem?_eq_getElem (by omega), Option.bind_some]
        simp only [Bool.not_true, cond_false, cond_true, Bool.true_and, show decide (k = 0) = false by simp; omega, Bool.false_or]
        cases slt s.after[k-1] s.after[k] <;> rfl

/-! ## The order of a flow's steps -/

def free (d : List Str) (s : Step) : Bool := !hasB d s.name && haveB d s.after
def left (steps : List Step) (d : List Str) : Nat := (steps.filter fun s => !hasB d s.name).length
def ordN (steps : List Step) : Nat → List Str → List Str
  | 0, d => d
  | n + 1, d => match steps.find? (free d) with
    | none => d
    | some s => ordN steps n (d ++ [s.name])

theorem left_lt {steps : List Step} {d : List Str} {s : Step} (h : steps.find? (free d) = some s) : left steps (d ++ [s.name]) < left steps d := by
  have hm := List.mem_of_find?_eq_some h
  have hp := List.find?_some h
  unfold free at hp
  rw [Bool.and_eq_true, Bool.not_eq_true'] at hp
  clear h
  unfold left
  have mono : ∀ (l : List Step), (l.filter fun t => !hasB (d ++ [s.name]) t.name).length ≤ (l.filter fun t => !hasB d t.name).length := by
    intro l
    induction l with
    | nil => simp
    | cons t l ih =>
      have e : hasB (d ++ [s.name]) t.name = (hasB d t.name || decide (s.name = t.name)) := by unfold hasB; simp
      simp only [List.filter_cons, e]
      cases hasB d t.name <;> cases decide (s.name = t.name) <;> simp <;> omega
  induction steps with
  | nil => cases hm
  | cons t l ih =>
    have e : hasB (d ++ [s.name]) t.name = (hasB d t.name || decide (s.name = t.name)) := by unfold hasB; simp
    rcases List.mem_cons.1 hm with rfl | hm
    · simp only [List.filter_cons, e, hp.1]
      have := mono l
      simp
      omega
    · have := ih hm
      simp only [List.filter_cons, e]
      cases hasB d t.name <;> cases decide (s.name = t.name) <;> simp <;> omega

theorem e_Flow_names {N : Nat} {f : Flow} (hN : f.steps.length < N) (hl : f.steps.length ≤ 4000000000) : m_impl_Flow_names N f = some (f.steps.map (·.name)) := by
  unfold m_impl_Flow_names
  rw [pick_list (fun _ : Step => true) (fun s => s.name) (fun n s k => m_impl_Flow_names_L5 N f n s k) f.steps (fun k s => (s, k)) N hN ?_ ?_, Option.bind_some]
  · rw [List.filter_eq_self.2 (fun _ _ => rfl)]; rfl
  · rintro n s k rfl
    simp only [m_impl_Flow_names_L5]
    rw [ltb_false.2 (by omega)]; rfl
  · intro n s k h hs
    simp only [m_impl_Flow_names_L5]
    rw [ltb_true.2 (by omega), cond_true, List.getElem?_eq_getElem h, Option.bind_some, appd_ok (by simp; omega)]; rfl

theorem e_Flow_ready {N : Nat} {f : Flow} {d : List Str} (hN : f.steps.length < N) (hd : d.length < N) (ha : ∀ s ∈ f.steps, s.after.length < N) (hl : f.steps.length ≤ 4000000000 - 1) : m_impl_Flow_ready N f d = some ((f.steps.filter (free d)).map (·.name)) := by
  unfold m_impl_Flow_ready
  rw [pick_list (free d) (fun s => s.name) (fun n s k => m_impl_Flow_ready_L5 N f d n s k) f.steps (fun k s => (s, k)) N hN ?_ ?_, Option.bind_some]
  · simp [Ex.go]
  · rintro n s k rfl
    simp only [m_impl_Flow_ready_L5]
    rw [ltb_false.2 (by omega)]; rfl
  · intro n s k h hs
    simp only [m_impl_Flow_ready_L5]
    rw [ltb_true.2 (by omega), cond_true, List.getElem?_eq_getElem h, Option.bind_some, e_Contains hd, Option.bind_some, e_NamesHave hd (ha _ (List.getElem_mem h)), appd_ok (by simp; omega)]
    unfold free
    cases hasB d f.steps[k].name <;> cases haveB d f.steps[k].after <;> rfl

theorem e_Flow_order_loop {N : Nat} {f : Flow} (hN : f.steps.length < N) (ha : ∀ s ∈ f.steps, s.after.length < N) (hl : f.steps.length ≤ 4000000000 - 1) : ∀ (m n j : Nat) (d : List Str), left f.steps d ≤ m → m < n → left f.steps d ≤ j → d.length + m ≤ f.steps.length → m_impl_Flow_order_L3 N f n d = some (.ret (ordN f.steps j d))
  | m, n, j, d, h1, h2, h3, h4 => by
    obtain ⟨n, rfl⟩ : ∃ n', n = n' + 1 := ⟨n - 1, by omega⟩
    simp only [m_impl_Flow_order_L3]
    rw [e_Flow_ready hN (by omega) ha hl, Option.bind_some]
    cases hf : f.steps.find? (free d) with
    | none =>
      have : f.steps.filter (free d) = [] := by
        rw [List.filter_eq_nil_iff]
        exact fun s hs => by have := List.find?_eq_none.1 hf s hs; simpa using this
      rw [this, eqb_true.2 (by simp), cond_true]
      cases j with
      | zero => rfl
      | succ j => rw [ordN, hf]
    | some s =>
      have hlt := left_lt hf
      have hh : (f.steps.filter (free d)).head? = some s := by rw [List.head?_filter, hf]
      obtain ⟨t, ht⟩ : ∃ t, f.steps.filter (free d) = s :: t := by
        cases hc : f.steps.filter (free d) with
        | nil => rw [hc] at hh; cases hh
        | cons a t => rw [hc] at hh; injection hh with hh; subst hh; exact ⟨t, rfl⟩
      rw [ht]
      rw [eqb_false.2 (by simp; omega), cond_false]
      obtain ⟨m, rfl⟩ : ∃ m', m = m' + 1 := ⟨m - 1, by omega⟩
      obtain ⟨j, rfl⟩ : ∃ j', j = j' + 1 := ⟨j - 1, by omega⟩
      rw [show (List.map (fun x : Step => x.name) (s :: t))[0]? = some s.name from rfl, Option.bind_some, appd_ok (by simp; omega), Option.bind_some, ordN, hf]
      exact e_Flow_order_loop hN ha hl m n j _ (by omega) (by omega) (by omega) (by simp; omega)

theorem left_le (steps : List Step) (d : List Str) : left steps d ≤ steps.length := List.length_filter_le _ _
theorem e_Flow_order {N : Nat} {f : Flow} (hN : f.steps.length < N) (ha : ∀ s ∈ f.steps, s.after.length < N) (hl : f.steps.length ≤ 4000000000 - 1) : m_impl_Flow_order N f = some (ordN f.steps f.steps.length []) := by
  unfold m_impl_Flow_order
  rw [e_Flow_order_loop hN ha hl f.steps.length N f.steps.length [] (left_le _ _) hN (left_le _ _) (by simp)]
  rfl

theorem find_idx {α : Type} (p : α → Bool) : ∀ (l : List α), l.find? p = (l.findIdx? p).bind fun i => l[i]?
  | [] => rfl
  | x :: t => by
    rw [List.find?_cons, List.findIdx?_cons, find_idx p t]
    cases p x with
    | true => rfl
    | false => cases t.findIdx? p <;> simp
theorem e_l2Next {N : Nat} {l : List Step} {d : List Str} (hN : l.length < N) (hd : d.length < N) (ha : ∀ s ∈ l, s.after.length < N) : m_spec_l2Next N l d = some (match l.find? (free d) with | some s => s.name | none => ⟨#[]⟩) := by
  unfold m_spec_l2Next
  have e : ∀ k (h : k < l.length), l[k]?.map (·.name) = some l[k].name := fun k h => by rw [List.getElem?_eq_getElem h]; rfl
  rw [find_list (free d) (fun k => ((l[k]?.map (·.name)).getD ⟨#[]⟩)) (fun n k => m_spec_l2Next_L4 N l d n k) l (fun k => k) N hN ?_ ?_, Option.bind_some]
  · rw [find_idx]
    cases h : l.findIdx? (free d) with
    | none => rfl
    | some i =>
      have hi : i < l.length := by
        have := List.findIdx?_eq_some_iff_getElem.1 h
        exact this.1
      simp [Ex.go, List.getElem?_eq_getElem hi]
  · rintro n k rfl
    simp only [m_spec_l2Next_L4]
    rw [ltb_false.2 (by omega)]; rfl
  · intro n k h
    simp only [m_spec_l2Next_L4]
    rw [ltb_true.2 (by omega), cond_true, List.getElem?_eq_getElem h, Option.bind_some, e_l1At hd, Option.bind_some, hasB_neg, e_l1Have hd (ha _ (List.getElem_mem h))]
    unfold free
    cases hasB d l[k].name <;> cases haveB d l[k].after <;> rfl

def ordStep (l : List Step) (d : List Str) : List Str := match l.find? (free d) with | some s => d ++ [s.name] | none => d
theorem ordN_fold (l : List Step) : ∀ (t : List Step) (d : List Str), t.foldl (fun d _ => ordStep l d) d = ordN l t.length d
  | [], d => rfl
  | _ :: t, d => by
    rw [List.foldl_cons, ordN_fold l t, List.length_cons, ordN]
    cases h : l.find? (free d) with
    | some s => unfold ordStep; rw [h]
    | none =>
      have : ordStep l d = d := by unfold ordStep; rw [h]
      rw [this]
      cases t.length with
      | zero => rfl
      | succ n => rw [ordN, h]

theorem e_l2Order {N : Nat} {l : List Step} (hN : l.length < N) (ha : ∀ s ∈ l, s.after.length < N) (hl : l.length ≤ 4000000000 - 1) (hne : ∀ s ∈ l, s.name ≠ ⟨#[]⟩) : m_spec_l2Order N l = some (ordN l l.length []) := by
  unfold m_spec_l2Order
  rw [loop_inv (fun n d k => m_spec_l2Order_L5 N l n d k) l (fun _ _ d => .inr (ordStep l d)) (fun k d => (d, k)) N hN (fun k d => d.length ≤ k) ?_ ?_ ?_ [] (Nat.le_refl _), goL_fold (fun (_ : Step) (d : List Str) => ordStep l d), ordN_fold]
  · rfl
  · rintro n d k rfl _
    simp only [m_spec_l2Order_L5]
    rw [ltb_false.2 (by omega)]; rfl
  · intro n d k h hi
    simp only [m_spec_l2Order_L5]
    rw [ltb_true.2 (by omega), cond_true, e_l2Next hN (by omega) ha, Option.bind_some]
    unfold ordStep
    cases hf : l.find? (free d) with
    | none => simp only; rw [seq_self]; rfl
    | some s => simp only; rw [seq_false.2 (hne s (List.mem_of_find?_eq_some hf)), appd_ok (by simp; omega)]; rfl
  · intro d k h s' hi he
    injection he with he
    subst he
    unfold ordStep
    cases l.find? (free d) with
    | none => simp only; omega
    | some s => simp only [List.length_append, List.length_singleton]; omega
end Go.Proofs.YtmnhnldnnniglaaGreat
