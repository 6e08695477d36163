/- The data and the plain functions: what the program computes, with no program in sight. -/
import Derived.Test.YtacecnffggffmaaDoorMem
set_option linter.all false
namespace Go.Proofs.YtacecnffggffmaaDoor

abbrev Str := ByteArray

theorem size_toList (s : Str) : s.data.toList.length = s.size := by cases s; rfl
theorem getElem_toList (s : Str) (k : Nat) (h : k < s.size) : s.data.toList[k]'(by rw [size_toList]; exact h) = s[k]'h := by cases s; rfl

theorem seq_iff {s r : Str} : seq s r = true ↔ s = r := by
  unfold seq
  rw [ByteArray.toList_eq, ByteArray.toList_eq, beq_iff_eq]
  constructor
  · intro h
    cases s; cases r
    simp at h
    rw [h]
  · rintro rfl; rfl

theorem seq_self (s : Str) : seq s s = true := seq_iff.2 rfl
theorem seq_false {s r : Str} : seq s r = false ↔ s ≠ r := by
  rw [← Bool.not_eq_true, Ne, seq_iff]

/-! ### Names -/

def lower (c : UInt8) : Bool := decide (97 ≤ c.toNat) && decide (c.toNat ≤ 122)
def nameOk (s : Str) : Bool := decide (1 ≤ s.size) && decide (s.size ≤ 5) && s.data.toList.all lower

theorem nameOk_iff (s : Str) : nameOk s = true ↔ 1 ≤ s.size ∧ s.size ≤ 5 ∧ ∀ k (h : k < s.size), 97 ≤ (s[k]'h).toNat ∧ (s[k]'h).toNat ≤ 122 := by
  unfold nameOk
  simp only [Bool.and_eq_true, decide_eq_true_eq, List.all_eq_true, and_assoc]
  refine and_congr_right fun _ => and_congr_right fun _ => ⟨fun h k hk => ?_, fun h c hc => ?_⟩
  · have := h (s[k]'hk) (by rw [← getElem_toList s k hk]; exact List.getElem_mem _)
    simpa [lower] using this
  · obtain ⟨k, hk, rfl⟩ := List.mem_iff_getElem.1 hc
    have hk' : k < s.size := by rw [← size_toList]; exact hk
    have := h k hk'
    rw [getElem_toList s k hk']
    simpa [lower] using this

theorem nameOk_false {s : Str} (h : ¬ (1 ≤ s.size ∧ s.size ≤ 5 ∧ ∀ k (h : k < s.size), 97 ≤ (s[k]'h).toNat ∧ (s[k]'h).toNat ≤ 122)) : nameOk s = false := by
  rw [← Bool.not_eq_true, nameOk_iff]; exact h

theorem nameOk_bad {s : Str} {k : Nat} (hk : k < s.size) (h : (s[k]'hk).toNat < 97 ∨ 122 < (s[k]'hk).toNat) : nameOk s = false :=
  nameOk_false fun ⟨_, _, h3⟩ => by have := h3 k hk; omega

/-! ### Data -/

structure Timer where
  at_ : Int
  name : Str
structure Step where
  name : Str
  after : List Str
  undo : Bool
structure Flow where
  ver : Int
  steps : List Step
structure Run where
  state : Int
  done : List Str
structure Change where
  kind : Int
  step : Step
structure Event where
  kind : Int
  name : Str

def cmpInt (a b : Int) : Int := if a < b then -1 else if b < a then 1 else 0
def cmpStr (a b : Str) : Int := if slt a b = true then -1 else if a = b then 0 else 1
def timerOk (t : Timer) : Bool := leb 0 t.at_ && leb t.at_ 9999 && nameOk t.name
def cmpTimer (a b : Timer) : Int := if cmpInt a.at_ b.at_ = 0 then cmpStr a.name b.name else cmpInt a.at_ b.at_

def before (a b : Timer) : Prop := a.at_ < b.at_ ∨ (a.at_ = b.at_ ∧ slt a.name b.name = true)

theorem cmpTimer_neg (a b : Timer) : cmpTimer a b < 0 ↔ before a b := by
  unfold cmpTimer cmpInt cmpStr before
  repeat' split
  all_goals simp_all
  all_goals omega

structure TimersOk (l : List Timer) : Prop where
  ok : ∀ i (h : i < l.length), timerOk l[i] = true
  ne : ∀ i j (hi : i < l.length) (hj : j < i), l[j].name ≠ l[i].name
  asc : ∀ i (h : i < l.length) (h0 : 0 < i), before l[i-1] l[i]
  len : l.length ≤ 8

open Classical in
noncomputable def timersOk (l : List Timer) : Bool := decide (TimersOk l)
theorem timersOk_true {l : List Timer} : timersOk l = true ↔ TimersOk l := by unfold timersOk; simp
theorem timersOk_false {l : List Timer} : timersOk l = false ↔ ¬ TimersOk l := by unfold timersOk; simp

theorem timersOk_end {l : List Timer} (h1 : ∀ i (h : i < l.length), i < l.length → timerOk l[i] = true) (h2 : ∀ i j (hi : i < l.length) (hj : j < i), i < l.length → l[j].name ≠ l[i].name)
    (h3 : ∀ i (h : i < l.length) (h0 : 0 < i), i < l.length → before l[i-1] l[i]) : timersOk l = leb l.length 8 := by
  cases hv : timersOk l
  · rw [timersOk_false] at hv
    rcases Nat.lt_or_ge 8 l.length with h8 | h8
    · rw [leb_false.2 (by omega)]
    · exact (hv ⟨fun i h => h1 i h h, fun i j hi hj => h2 i j hi hj hi, fun i h h0 => h3 i h h0 h, h8⟩).elim
  · rw [leb_true.2 (by have := (timersOk_true.1 hv).len; omega)]

theorem any_take {α : Type} (l : List α) (f : α → Str) (k : Nat) (s : Str) (hk : k ≤ l.length) : ((l.take k).map f).any (fun u => seq u s) = true ↔ ∃ (j : Nat) (hj : j < k), f (l[j]'(by omega)) = s := by
  simp only [List.any_eq_true, List.mem_map]
  constructor
  · rintro ⟨_, ⟨x, hx, rfl⟩, h⟩
    obtain ⟨j, hj, rfl⟩ := List.mem_iff_getElem.1 hx
    simp only [List.length_take] at hj
    exact ⟨j, by omega, by rw [← seq_iff.1 h]; simp⟩
  · rintro ⟨j, hj, h⟩
    refine ⟨_, ⟨l[j]'(by omega), ?_, rfl⟩, by rw [h]; exact seq_self _⟩
    rw [List.mem_iff_getElem]
    exact ⟨j, by simp; omega, by simp⟩

theorem any_take_f {α : Type} (l : List α) (f : α → Str) (k : Nat) (s : Str) (hk : k ≤ l.length) : ((l.take k).map f).any (fun u => seq u s) = false ↔ ∀ (j : Nat) (hj : j < k), f (l[j]'(by omega)) ≠ s := by
  rw [← Bool.not_eq_true, any_take l f k s hk]
  simp

theorem map_take_succ {α β : Type} (l : List α) (f : α → β) (k : Nat) (h : k < l.length) : (l.take (k + 1)).map f = (l.take k).map f ++ [f l[k]] := by
  rw [List.take_succ_eq_append_getElem h, List.map_append, List.map_cons, List.map_nil]

/-! ### The first place -/

def posOf {α : Type} (f : α → Str) (l : List α) (s : Str) : Int :=
  match l.findIdx? (fun x => decide (f x = s)) with
  | some i => (i : Int)
  | none => -1

theorem posOf_at {α : Type} {f : α → Str} {l : List α} {s : Str} {i : Nat} (hi : i < l.length) (h : f l[i] = s) (hj : ∀ j (hj : j < i), f (l[j]'(by omega)) ≠ s) : posOf f l s = i := by
  unfold posOf
  rw [List.findIdx?_eq_some_iff_getElem.2 ⟨hi, by simpa using h, fun j hj' => by simpa using hj j hj'⟩]

theorem posOf_none {α : Type} {f : α → Str} {l : List α} {s : Str} (h : ∀ i (hi : i < l.length), f l[i] ≠ s) : posOf f l s = -1 := by
  unfold posOf
  rw [List.findIdx?_eq_none_iff.2 fun x hx => ?_]
  obtain ⟨i, hi, rfl⟩ := List.mem_iff_getElem.1 hx
  simpa using h i hi

theorem posOf_cases {α : Type} (f : α → Str) (l : List α) (s : Str) :
    (posOf f l s = -1 ∧ ∀ i (hi : i < l.length), f l[i] ≠ s) ∨ ∃ i, ∃ hi : i < l.length, posOf f l s = i ∧ f l[i] = s ∧ ∀ j (hj : j < i), f (l[j]'(by omega)) ≠ s := by
  rcases hv : l.findIdx? (fun x => decide (f x = s)) with _ | i
  · refine .inl ⟨by unfold posOf; rw [hv], fun i hi => ?_⟩
    have := List.findIdx?_eq_none_iff.1 hv _ (List.getElem_mem hi)
    simpa using this
  · obtain ⟨hi, h, hj⟩ := List.findIdx?_eq_some_iff_getElem.1 hv
    exact .inr ⟨i, hi, by unfold posOf; rw [hv], by simpa using h, fun j hj' => by simpa using hj j hj'⟩

/-- A name stands at its own first place, or ahead of it there is the same name. -/
theorem posOf_lt {α : Type} (f : α → Str) (l : List α) (k : Nat) (hk : k < l.length) : posOf f l (f l[k]) < k ↔ ∃ j, ∃ hj : j < k, f (l[j]'(by omega)) = f l[k] := by
  rcases posOf_cases f l (f l[k]) with ⟨_, h⟩ | ⟨i, hi, he, h1, h2⟩
  · exact absurd rfl (h k hk)
  · rw [he]
    constructor
    · intro h
      exact ⟨i, by omega, h1⟩
    · rintro ⟨j, hj, h⟩
      rcases Nat.lt_or_ge i k with h' | h'
      · omega
      · exact absurd h (h2 j (by omega))

end Go.Proofs.YtacecnffggffmaaDoor
