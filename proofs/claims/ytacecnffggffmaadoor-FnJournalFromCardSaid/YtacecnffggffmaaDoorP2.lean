/- More plain loops: with a rule kept, folding, comparing, copying, measuring. -/
import Derived.Test.YtacecnffggffmaaDoorP0
set_option linter.all false
namespace Go.Proofs.YtacecnffggffmaaDoor

theorem loop_invA {α σ β R : Type} (F : Nat → σ → Nat → Option (Ex β R)) (l : List α) (st : Nat → α → σ → Sum R σ) (b : Nat → σ → β) (I : Nat → σ → Prop)
    (hn : ∀ n s k, k = l.length → I k s → F (n + 1) s k = some (.brk (b k s)))
    (hF : ∀ n s k (h : k < l.length), I k s → F (n + 1) s k = match st k l[k] s with | .inl r => some (.ret r) | .inr s' => F n s' (k + 1))
    (hI : ∀ s k (h : k < l.length) s', I k s → st k l[k] s = .inr s' → I (k + 1) s') :
    ∀ (t : List α) (n k : Nat) (s : σ), l.drop k = t → k ≤ l.length → t.length < n → I k s → F n s k = some (goL st b t k s)
  | [], n, k, s, ht, hk, hlt, hi => by
    obtain ⟨m, rfl⟩ : ∃ m, n = m + 1 := ⟨n - 1, by simp at hlt; omega⟩
    have : k = l.length := by have := List.drop_eq_nil_iff.1 ht; omega
    rw [hn m s k this hi]; rfl
  | x :: t, n, k, s, ht, hk, hlt, hi => by
    obtain ⟨m, rfl⟩ : ∃ m, n = m + 1 := ⟨n - 1, by simp at hlt; omega⟩
    have hkl : k < l.length := by
      rcases Nat.lt_or_ge k l.length with h | h
      · exact h
      · rw [List.drop_of_length_le h] at ht; cases ht
    have hd := List.drop_eq_getElem_cons hkl
    rw [ht] at hd
    injection hd with hx hd
    subst hx
    rw [hF m s k hkl hi]
    unfold goL
    cases hs : st k l[k] s with
    | inl r => rfl
    | inr s' =>
      simp only
      exact loop_invA F l st b I hn hF hI t m (k + 1) s' hd.symm (by omega) (by simp at hlt; omega) (hI s k hkl s' hi hs)

theorem loop_inv {α σ β R : Type} (F : Nat → σ → Nat → Option (Ex β R)) (l : List α) (st : Nat → α → σ → Sum R σ) (b : Nat → σ → β) (N : Nat) (hN : l.length < N) (I : Nat → σ → Prop)
    (hn : ∀ n s k, k = l.length → I k s → F (n + 1) s k = some (.brk (b k s)))
    (hF : ∀ n s k (h : k < l.length), I k s → F (n + 1) s k = match st k l[k] s with | .inl r => some (.ret r) | .inr s' => F n s' (k + 1))
    (hI : ∀ s k (h : k < l.length) s', I k s → st k l[k] s = .inr s' → I (k + 1) s') (s : σ) (h0 : I 0 s) : F N s 0 = some (goL st b l 0 s) :=
  loop_invA F l st b I hn hF hI l N 0 s rfl (Nat.zero_le _) hN h0

theorem goL_fold {α σ β R : Type} (g : α → σ → σ) (b : Nat → σ → β) : ∀ (l : List α) (k : Nat) (s : σ), goL (fun _ x s => (.inr (g x s) : Sum R σ)) b l k s = .brk (b (k + l.length) (l.foldl (fun s x => g x s) s))
  | [], k, s => by simp [goL]
  | x :: t, k, s => by
    unfold goL
    simp only
    rw [goL_fold g b t (k + 1) (g x s)]
    simp [Nat.add_assoc, Nat.add_comm 1]

/-- Two lists of one length, compared place by place. -/
theorem same_list {α β : Type} (e : α → α → Bool) (he : ∀ x y, e x y = true ↔ x = y) (F : Nat → Nat → Option (Ex β Bool)) (l m : List α) (b : Nat → β) (N : Nat) (hN : l.length < N) (hl : l.length = m.length)
    (hn : ∀ n k, k = l.length → F (n + 1) k = some (.brk (b k)))
    (hF : ∀ n k (h : k < l.length) (h2 : k < m.length), F (n + 1) k = bif !(e l[k] m[k]) then some (.ret false) else F n (k + 1)) :
    (l = m → F N 0 = some (.brk (b l.length))) ∧ (l ≠ m → F N 0 = some (.ret false)) := by
  rw [loop0 (fun n (_ : Unit) k => F n k) l (fun k x _ => bif (match m[k]? with | some y => e x y | none => false) then .inr () else .inl false) (fun k _ => b k) N hN (fun n _ k h => hn n k h) ?_ ()]
  · rw [goL_all (fun k x => match m[k]? with | some y => e x y | none => false)]
    refine ⟨fun h => congrArg some ?_, fun h => congrArg some ?_⟩
    · subst h
      rw [if_pos, Nat.zero_add]
      intro i hi
      rw [Nat.zero_add, List.getElem?_eq_getElem hi]
      exact (he _ _).2 rfl
    · rw [if_neg]
      intro hc
      refine h (List.ext_getElem hl fun i h1 h2 => ?_)
      have := hc i h1
      rw [Nat.zero_add, List.getElem?_eq_getElem h2] at this
      exact (he _ _).1 this
  · intro n _ k h
    rw [hF n k h (hl ▸ h), List.getElem?_eq_getElem (hl ▸ h)]
    simp only
    cases e l[k] (m[k]'(hl ▸ h)) <;> rfl

/-- A list copied place by place. -/
theorem copy_list {α β R : Type} (F : Nat → List α → Nat → Option (Ex β R)) (l z : List α) (b : Nat → List α → β) (N : Nat) (hN : l.length < N) (hz : z.length = l.length)
    (hn : ∀ n s k, k = l.length → F (n + 1) s k = some (.brk (b k s)))
    (hF : ∀ n s k (h : k < l.length), s.length = l.length → F (n + 1) s k = F n (s.set k l[k]) (k + 1)) :
    F N z 0 = some (.brk (b l.length l)) := by
  rw [loop_inv F l (fun k x s => .inr (s.set k x)) b N hN (fun k s => s.length = l.length ∧ s.take k = l.take k) (fun n s k h _ => hn n s k h) (fun n s k h hi => hF n s k h hi.1) ?_ z ⟨hz, by simp⟩]
  · refine congrArg some ?_
    have key : ∀ (t : List α) (k : Nat) (s : List α), l.drop k = t → k ≤ l.length → s.length = l.length → s.take k = l.take k → goL (fun k x s => (.inr (s.set k x) : Sum R (List α))) b t k s = .brk (b l.length l) := by
      intro t
      induction t with
      | nil =>
        intro k s h1 h2 h3 h4
        have : k = l.length := by have := List.drop_eq_nil_iff.1 h1; omega
        subst this
        have : s = l := by rw [List.take_length] at h4; rw [← h4, ← h3, List.take_length]
        subst this
        rfl
      | cons x t ih =>
        intro k s h1 h2 h3 h4
        have hkl : k < l.length := by
          rcases Nat.lt_or_ge k l.length with h | h
          · exact h
          · rw [List.drop_of_length_le h] at h1; cases h1
        have hd := List.drop_eq_getElem_cons hkl
        rw [h1] at hd
        injection hd with hx hd
        subst hx
        unfold goL
        simp only
        refine ih (k + 1) _ hd.symm (by omega) (by simpa using h3) ?_
        rw [List.take_set, List.take_succ_eq_append_getElem (by omega), List.take_succ_eq_append_getElem hkl, h4, List.set_append_right _ _ (by simp; omega)]
        simp [Nat.min_eq_left h2]
    exact key l 0 z rfl (Nat.zero_le _) hz (by simp)
  · intro s k h s' hi he
    injection he with he
    subst he
    refine ⟨by simpa using hi.1, ?_⟩
    rw [List.take_set, List.take_succ_eq_append_getElem (by omega), List.take_succ_eq_append_getElem h, hi.2, List.set_append_right _ _ (by simp; omega)]
    simp [Nat.min_eq_left (Nat.le_of_lt h)]

/-- What is left of a measure. -/
def gz (w : Nat) (left : Int) : Int := if (w : Int) ≤ left then left - w else -1
def wsum {α : Type} (w : α → Nat) (l : List α) : Nat := (l.map w).sum
theorem gz_pos {w : Nat} {left : Int} (h : 0 ≤ gz w left) : (w : Int) ≤ left ∧ gz w left = left - w := by
  unfold gz at h ⊢
  split at h
  · rename_i h1; exact ⟨h1, if_pos h1⟩
  · omega
theorem gz_le {w : Nat} {left : Int} (h : 0 ≤ left) : gz w left ≤ left := by unfold gz; split <;> omega
theorem gz_neg {w : Nat} {left : Int} (h : gz w left < 0) : gz w left = -1 ∨ ¬ (0 ≤ left) := by
  unfold gz at *
  split at h
  · omega
  · rw [if_neg (by assumption)]; exact .inl rfl
theorem gz_add {v w : Nat} {left : Int} (hl : 0 ≤ left) : (if gz v left < 0 then (-1 : Int) else gz w (gz v left)) = gz (v + w) left := by
  unfold gz
  by_cases h : (v : Int) ≤ left
  · rw [if_pos h, if_neg (by omega)]
    by_cases h2 : (w : Int) ≤ left - v
    · rw [if_pos h2, if_pos (by omega)]; omega
    · rw [if_neg h2, if_neg (by omega)]
  · rw [if_neg h, if_pos (by omega), if_neg (by omega)]
theorem gz_w64 {w : Nat} {left : Int} (h0 : 0 ≤ left) (h1 : left ≤ 1048576) (hw : w ≤ 4611686018427387904) : w64 (left - (w : Int)) = left - w := w64_id (by omega)
theorem gz_step {α : Type} {w : Nat} {left : Int} (h0 : 0 ≤ left) (h1 : left ≤ 1048576) (hw : w ≤ 4611686018427387904) {x : Option α} {f : Int → Option α} : (bif ltb (w64 (left - (w : Int))) 0 then x else f (w64 (left - (w : Int)))) = bif ltb (gz w left) 0 then x else f (gz w left) := by
  rw [gz_w64 h0 h1 hw]
  unfold gz
  by_cases h : (w : Int) ≤ left
  · rw [if_pos h]
  · rw [if_neg h, ltb_true.2 (by omega), ltb_true.2 (by omega)]; rfl
theorem wsum_mem {α : Type} {w : α → Nat} {l : List α} {x : α} (h : x ∈ l) : w x ≤ wsum w l := by
  induction l with
  | nil => cases h
  | cons y l ih =>
    simp only [wsum, List.map_cons, List.sum_cons] at ih ⊢
    rcases List.mem_cons.1 h with rfl | h
    · omega
    · have := ih h; omega

theorem size_list {α β : Type} (F : Nat → Int → Nat → Option (Ex β Int)) (l : List α) (w : α → Nat) (b : Nat → Int → β) (N : Nat) (hN : l.length < N)
    (hn : ∀ n s k, k = l.length → F (n + 1) s k = some (.brk (b k s)))
    (hF : ∀ n s k (h : k < l.length), 0 ≤ s → s ≤ 1048576 → F (n + 1) s k = bif ltb (gz (w l[k]) s) 0 then some (.ret (-1)) else F n (gz (w l[k]) s) (k + 1)) (left : Int) (h0 : 0 ≤ left) (h1 : left ≤ 1048576) :
    F N left 0 = some (if gz (wsum w l) left < 0 then .ret (-1) else .brk (b l.length (gz (wsum w l) left))) := by
  rw [loop_inv F l (fun k x s => bif ltb (gz (w x) s) 0 then .inl (-1) else .inr (gz (w x) s)) b N hN (fun k s => 0 ≤ s ∧ s ≤ 1048576) (fun n s k h _ => hn n s k h) (fun n s k h hi => by rw [hF n s k h hi.1 hi.2]; cases ltb (gz (w l[k]) s) 0 <;> rfl) ?_ left ⟨h0, h1⟩]
  · refine congrArg some ?_
    have key : ∀ (t : List α) (k : Nat) (s : Int), 0 ≤ s → goL (fun k x s => bif ltb (gz (w x) s) 0 then .inl (-1 : Int) else .inr (gz (w x) s)) b t k s = if gz (wsum w t) s < 0 then .ret (-1) else .brk (b (k + t.length) (gz (wsum w t) s)) := by
      intro t
      induction t with
      | nil => intro k s hs; have : gz (wsum w ([] : List α)) s = s := by simp [gz, wsum, hs]
               rw [this, if_neg (by omega)]; rfl
      | cons x t ih =>
        intro k s hs
        unfold goL
        have ha := gz_add (v := w x) (w := wsum w t) hs
        have e : wsum w (x :: t) = w x + wsum w t := by simp [wsum]
        rw [e]
        by_cases hc : gz (w x) s < 0
        · rw [if_pos hc] at ha
          rw [ltb_true.2 hc, ← ha, if_pos (by omega)]; rfl
        · rw [if_neg hc] at ha
          rw [ltb_false.2 (by omega), ← ha]
          simp only [cond_false]
          rw [ih (k + 1) _ (by omega)]
          simp only [List.length_cons, Nat.add_assoc, Nat.add_comm 1]
    have := key l 0 left h0
    rw [this, Nat.zero_add]
  · intro s k h s' hi he
    cases hc : ltb (gz (w l[k]) s) 0 with
    | true => rw [hc] at he; cases he
    | false =>
      rw [hc] at he
      injection he with he
      subst he
      have := ltb_false.1 hc
      exact ⟨by omega, Int.le_trans (gz_le hi.1) hi.2⟩
theorem gz_mk {n m : Nat} {left : Int} (h0 : 0 ≤ left) : ∀ {r : Int}, (if gz n left < 0 then (-1 : Int) else gz m (gz n left)) = r → gz (n + m) left = r := fun h => by rw [← h, gz_add h0]
end Go.Proofs.YtacecnffggffmaaDoor
