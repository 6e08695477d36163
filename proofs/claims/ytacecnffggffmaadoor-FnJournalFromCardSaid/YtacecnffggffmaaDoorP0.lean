/- Plain lemmas: loops over lists, texts in order, bounds. No program in sight. -/
import Derived.Test.YtacecnffggffmaaDoorS
import Derived.Test.YtacecnffggffmaaDoorR
set_option linter.all false
namespace Go.Proofs.YtacecnffggffmaaDoor

/-! ## Loops -/

/-- What a loop over a list does: st tells what is handed back, or how it goes on. -/
def goL {α σ β R : Type} (st : Nat → α → σ → Sum R σ) (b : Nat → σ → β) : List α → Nat → σ → Ex β R
  | [], k, s => .brk (b k s)
  | x :: t, k, s => match st k x s with
    | .inl r => .ret r
    | .inr s' => goL st b t (k + 1) s'

theorem loop_list {α σ β R : Type} (F : Nat → σ → Nat → Option (Ex β R)) (l : List α) (st : Nat → α → σ → Sum R σ) (b : Nat → σ → β)
    (hn : ∀ n s k, k = l.length → F (n + 1) s k = some (.brk (b k s)))
    (hF : ∀ n s k (h : k < l.length), F (n + 1) s k = match st k l[k] s with | .inl r => some (.ret r) | .inr s' => F n s' (k + 1)) :
    ∀ (t : List α) (n k : Nat) (s : σ), l.drop k = t → k ≤ l.length → t.length < n → F n s k = some (goL st b t k s)
  | [], n, k, s, ht, hk, hlt => by
    obtain ⟨m, rfl⟩ : ∃ m, n = m + 1 := ⟨n - 1, by simp at hlt; omega⟩
    have : k = l.length := by have := List.drop_eq_nil_iff.1 ht; omega
    rw [hn m s k this]; rfl
  | x :: t, n, k, s, ht, hk, hlt => by
    obtain ⟨m, rfl⟩ : ∃ m, n = m + 1 := ⟨n - 1, by simp at hlt; omega⟩
    have hkl : k < l.length := by
      rcases Nat.lt_or_ge k l.length with h | h
      · exact h
      · rw [List.drop_of_length_le h] at ht; cases ht
    have hx : l[k] = x := by
      have := List.drop_eq_getElem_cons hkl
      rw [ht] at this
      injection this with h1 _
      exact h1.symm
    have hd : l.drop (k + 1) = t := by
      have := List.drop_eq_getElem_cons hkl
      rw [ht] at this
      injection this with _ h2
      exact h2.symm
    rw [hF m s k hkl, hx]
    unfold goL
    cases hs : st k x s with
    | inl r => rfl
    | inr s' =>
      simp only
      exact loop_list F l st b hn hF t m (k + 1) s' hd (by omega) (by simp at hlt; omega)

/-- The same, from the beginning. -/
theorem loop0 {α σ β R : Type} (F : Nat → σ → Nat → Option (Ex β R)) (l : List α) (st : Nat → α → σ → Sum R σ) (b : Nat → σ → β) (N : Nat) (hN : l.length < N)
    (hn : ∀ n s k, k = l.length → F (n + 1) s k = some (.brk (b k s)))
    (hF : ∀ n s k (h : k < l.length), F (n + 1) s k = match st k l[k] s with | .inl r => some (.ret r) | .inr s' => F n s' (k + 1)) (s : σ) : F N s 0 = some (goL st b l 0 s) :=
  loop_list F l st b hn hF l N 0 s rfl (Nat.zero_le _) hN

/-- A loop that only looks, and hands back the one value r where p fails. -/
theorem goL_all {α β R : Type} (p : Nat → α → Bool) (r : R) (b : Nat → Unit → β) : ∀ (l : List α) (k : Nat), goL (fun k x (_ : Unit) => bif p k x then .inr () else .inl r) b l k () = (if ∀ i (h : i < l.length), p (k + i) l[i] = true then .brk (b (k + l.length) ()) else .ret r)
  | [], k => by simp [goL]
  | x :: t, k => by
    unfold goL
    cases hp : p k x with
    | false =>
      rw [if_neg (fun h => by have := h 0 (by simp); simp [hp] at this)]
      simp
    | true =>
      simp only [cond_true]
      rw [goL_all p r b t (k + 1)]
      by_cases hc : ∀ i (h : i < t.length), p (k + 1 + i) t[i] = true
      · rw [if_pos hc, if_pos (fun i h => by
          cases i with
          | zero => simpa using hp
          | succ i => have := hc i (by simpa using h); simpa [Nat.add_assoc, Nat.add_comm 1 i] using this)]
        simp [Nat.add_assoc, Nat.add_comm 1]
      · rw [if_neg hc, if_neg (fun h => hc fun i hi => by have := h (i + 1) (by simpa using hi); simpa [Nat.add_assoc, Nat.add_comm 1 i] using this)]

/-- A loop that seeks the first place where p holds. -/
theorem goL_find {α β R : Type} (p : α → Bool) (r : Nat → R) (b : Nat → Unit → β) : ∀ (l : List α) (k : Nat), goL (fun k x (_ : Unit) => bif p x then .inl (r k) else .inr ()) b l k () = (match l.findIdx? p with | some i => .ret (r (k + i)) | none => .brk (b (k + l.length) ()))
  | [], k => by simp [goL]
  | x :: t, k => by
    unfold goL
    rw [List.findIdx?_cons]
    cases hp : p x with
    | true => simp
    | false =>
      simp only [cond_false]
      rw [goL_find p r b t (k + 1)]
      cases t.findIdx? p with
      | none => simp [Nat.add_assoc, Nat.add_comm 1]
      | some i => simp [Nat.add_assoc, Nat.add_comm 1]

theorem appd_ok {α : Type} {l m : List α} (h : l.length + m.length ≤ 4000000000) : appd l m = some (l ++ m) := if_pos h
theorem mkl_ok {α : Type} {n : Nat} {z : α} (h : n ≤ 4000000000) : mkl n z = some (List.replicate n z) := if_pos h
theorem ssz_ok {s : Str} (h : s.size ≤ 4611686018427387904) : ssz s = some () := if_pos h
theorem slTo_nat {α : Type} {l : List α} {k : Nat} (h : k ≤ l.length) : slTo l (k : Int) = some (l.take k) := by unfold slTo; rw [if_pos (by omega)]; simp
theorem slFrom_nat {α : Type} {l : List α} {k : Nat} (h : k ≤ l.length) : slFrom l (k : Int) = some (l.drop k) := by unfold slFrom; rw [if_pos (by omega)]; simp
theorem geti_nat {α : Type} {l : List α} {k : Nat} : geti l (k : Int) = l[k]? := by unfold geti; rw [if_pos (by omega)]; simp
theorem pick_ok {N : Nat} {cd : List UInt8} {p : Nat} {m : Int} (h : p ≤ 1000000000) : m_spec_l6Rd_pick N cd p m = some (((pickv cd p m : Nat) : Int), p + 1) := if_pos h

/-! ## Texts in order -/

theorem bl_irrefl : ∀ l : List UInt8, Op.bytesLess l l = false
  | [] => rfl
  | a :: l => by simp [Op.bytesLess, bl_irrefl l]
theorem bl_trans : ∀ {a b c : List UInt8}, Op.bytesLess a b = true → Op.bytesLess b c = true → Op.bytesLess a c = true
  | _, [], _, h, _ => by simp [Op.bytesLess] at h
  | _, _ :: _, [], _, h => by simp [Op.bytesLess] at h
  | [], _ :: _, _ :: _, _, _ => by simp [Op.bytesLess]
  | x :: a, y :: b, z :: c, h, k => by
    simp only [Op.bytesLess, Bool.or_eq_true, decide_eq_true_eq, Bool.and_eq_true, beq_iff_eq] at h k ⊢
    rcases h with h | ⟨rfl, h⟩
    · rcases k with k | ⟨rfl, k⟩
      · exact .inl (UInt8.lt_trans h k)
      · exact .inl h
    · rcases k with k | ⟨rfl, k⟩
      · exact .inl k
      · exact .inr ⟨rfl, bl_trans h k⟩
theorem bl_tri : ∀ {a b : List UInt8}, Op.bytesLess a b = false → Op.bytesLess b a = false → a = b
  | [], [], _, _ => rfl
  | [], _ :: _, h, _ => by simp [Op.bytesLess] at h
  | _ :: _, [], _, h => by simp [Op.bytesLess] at h
  | x :: a, y :: b, h, k => by
    simp only [Op.bytesLess, Bool.or_eq_false_iff, decide_eq_false_iff_not, Bool.and_eq_false_iff, beq_eq_false_iff_ne] at h k
    have e : x = y := by
      rcases Nat.lt_trichotomy x.toNat y.toNat with h1 | h1 | h1
      · exact absurd (UInt8.lt_iff_toNat_lt.2 h1) h.1
      · exact UInt8.toNat_inj.1 h1
      · exact absurd (UInt8.lt_iff_toNat_lt.2 h1) k.1
    subst e
    exact congrArg (x :: ·) (bl_tri (by simpa using h.2) (by simpa using k.2))

theorem slt_irrefl (s : Str) : slt s s = false := by unfold slt; exact bl_irrefl _
theorem slt_trans {a b c : Str} (h : slt a b = true) (k : slt b c = true) : slt a c = true := by unfold slt at *; exact bl_trans h k
theorem slt_tri {a b : Str} (h : slt a b = false) (k : slt b a = false) : a = b := by
  unfold slt at *
  have h2 := bl_tri h k
  exact seq_iff.1 (by unfold seq; rw [h2]; simp)
theorem slt_asymm {a b : Str} (h : slt a b = true) : slt b a = false := by
  cases hb : slt b a with
  | false => rfl
  | true => have := slt_trans h hb; rw [slt_irrefl] at this; cases this
theorem slt_ne {a b : Str} (h : slt a b = true) : a ≠ b := fun e => by subst e; rw [slt_irrefl] at h; cases h
theorem seq_dec (a b : Str) : seq a b = decide (a = b) := by
  rw [Bool.eq_iff_iff, seq_iff]; simp

/-! ## Conditions read -/
theorem bif_if {α : Type} {b : Bool} {x y : α} : (bif b then x else y) = if b = true then x else y := by cases b <;> rfl
theorem ltb_nat {a b : Nat} : ltb (a : Int) (b : Int) = decide (a < b) := by rw [ltb_dec]; simp
theorem leb_nat {a b : Nat} : leb (a : Int) (b : Int) = decide (a ≤ b) := by rw [leb_dec]; simp
theorem bget_ok {s : Str} {k : Nat} (h : k < s.size) : bget s k = some (s[k]'h).toNat := by unfold bget; rw [dif_pos h]

/-! ## Names -/

theorem nameOk_loop (s : Str) (k : Nat) (hk : k ≤ s.size) (h : ∀ j (hj : j < s.size), j < k → 97 ≤ (s[j]'hj).toNat ∧ (s[j]'hj).toNat ≤ 122) : nameOk s = true ↔ (1 ≤ s.size ∧ s.size ≤ 5 ∧ ∀ j (hj : j < s.size), k ≤ j → 97 ≤ (s[j]'hj).toNat ∧ (s[j]'hj).toNat ≤ 122) := by
  rw [nameOk_iff]
  constructor
  · rintro ⟨h1, h2, h3⟩; exact ⟨h1, h2, fun j hj _ => h3 j hj⟩
  · rintro ⟨h1, h2, h3⟩
    refine ⟨h1, h2, fun j hj => ?_⟩
    rcases Nat.lt_or_ge j k with h4 | h4
    · exact h j hj h4
    · exact h3 j hj h4
theorem nameOk_size {s : Str} (h : nameOk s = true) : 1 ≤ s.size ∧ s.size ≤ 5 := ⟨((nameOk_iff s).1 h).1, ((nameOk_iff s).1 h).2.1⟩
end Go.Proofs.YtacecnffggffmaaDoor
