/- Lines of events, as bytes: words with blanks between, told again from the line. -/
import Derived.Test.YtacecnffggffmaaDoorP0
import Derived.Lib.ItoaNum
set_option linter.all false
namespace Go.Proofs.YtacecnffggffmaaDoor

abbrev Bs := List UInt8

/-! ## Words and blanks -/

def joinW : List Bs → Bs
  | [] => []
  | [w] => w
  | w :: v :: r => w ++ 32 :: joinW (v :: r)
def splitW : Bs → List Bs
  | [] => [[]]
  | x :: t => if x = 32 then [] :: splitW t else match splitW t with
    | w :: r => (x :: w) :: r
    | [] => [[x]]
theorem splitW_eq (x : UInt8) (t : Bs) : splitW (x :: t) = if x = 32 then [] :: splitW t else match splitW t with
    | w :: r => (x :: w) :: r
    | [] => [[x]] := rfl
theorem splitW_ne : ∀ l : Bs, splitW l ≠ []
  | [] => by simp [splitW]
  | x :: t => by
    unfold splitW
    split
    · simp
    · cases splitW t <;> simp
theorem splitW_word : ∀ (w : Bs), (∀ b ∈ w, b ≠ 32) → splitW w = [w]
  | [], _ => rfl
  | x :: t, h => by
    unfold splitW
    rw [if_neg (h x (by simp)), splitW_word t (fun b hb => h b (by simp [hb]))]
theorem splitW_cons : ∀ (w l : Bs), (∀ b ∈ w, b ≠ 32) → splitW (w ++ 32 :: l) = w :: splitW l
  | [], l, _ => by simp [splitW]
  | x :: t, l, h => by
    rw [List.cons_append, splitW_eq, if_neg (h x (by simp)), splitW_cons t l (fun b hb => h b (by simp [hb]))]
theorem split_join : ∀ (ws : List Bs), ws ≠ [] → (∀ w ∈ ws, ∀ b ∈ w, b ≠ 32) → splitW (joinW ws) = ws
  | [], h, _ => absurd rfl h
  | [w], _, h => splitW_word w (h w (by simp))
  | w :: v :: r, _, h => by
    unfold joinW
    rw [splitW_cons w _ (h w (by simp)), split_join (v :: r) (by simp) (fun u hu => h u (by simp [hu]))]
theorem join_split : ∀ l : Bs, joinW (splitW l) = l
  | [] => rfl
  | x :: t => by
    have ih := join_split t
    unfold splitW
    split
    · rename_i e
      subst e
      cases hs : splitW t with
      | nil => exact absurd hs (splitW_ne t)
      | cons w r =>
        unfold joinW
        rw [← hs, ih]; rfl
    · cases hs : splitW t with
      | nil => exact absurd hs (splitW_ne t)
      | cons w r =>
        rw [hs] at ih
        cases r with
        | nil => unfold joinW at ih ⊢; rw [ih]
        | cons v r =>
          unfold joinW at ih ⊢
          rw [List.cons_append, ih]

/-! ## Numbers -/

theorem dec_digits : ∀ (n : Nat), ∀ b ∈ Lib.decDigits n, 48 ≤ b.toNat ∧ b.toNat ≤ 57
  | n => by
    unfold Lib.decDigits
    split
    · rename_i h
      intro b hb
      rw [List.mem_singleton.1 hb]
      simp; omega
    · rename_i h
      intro b hb
      rcases List.mem_append.1 hb with h1 | h1
      · exact dec_digits (n / 10) b h1
      · rw [List.mem_singleton.1 h1]
        simp; omega
termination_by n => n
decreasing_by omega
theorem dec_blank {n : Nat} : ∀ b ∈ Lib.decDigits n, b ≠ 32 := fun b hb e => by
  have := (dec_digits n b hb).1
  rw [e] at this
  exact absurd this (by decide)

/-! ## Lines -/

def checkB (l : Bs) : Nat := l.foldl (fun c b => (263 * c + b.toNat) % 997) 17
def wordB (k : Int) : Bs := if k = 1 then [100, 105, 100] else if k = 2 then [102, 97, 105, 108, 101, 100] else [117, 110, 100, 105, 100]
def headB (n : Nat) (k : Int) (name : Bs) : Bs := joinW [Lib.decDigits n, wordB k, name]
def lineB (n : Nat) (k : Int) (name : Bs) : Bs := joinW [Lib.decDigits n, wordB k, name, Lib.decDigits (checkB (headB n k name))]
theorem line_head (n : Nat) (k : Int) (name : Bs) : lineB n k name = headB n k name ++ 32 :: Lib.decDigits (checkB (headB n k name)) := by
  unfold lineB
  simp [joinW, headB]
theorem word_blank {k : Int} : ∀ b ∈ wordB k, b ≠ 32 := by
  unfold wordB
  split
  · decide
  · split <;> decide
theorem word_inj {k j : Int} (hk : 1 ≤ k) (hk3 : k ≤ 3) (hj : 1 ≤ j) (hj3 : j ≤ 3) (e : wordB k = wordB j) : k = j := by
  unfold wordB at e
  by_cases k1 : k = 1
  · by_cases j1 : j = 1
    · omega
    · rw [if_pos k1, if_neg j1] at e
      by_cases j2 : j = 2
      · rw [if_pos j2] at e; simp at e
      · rw [if_neg j2] at e; simp at e
  · rw [if_neg k1] at e
    by_cases k2 : k = 2
    · rw [if_pos k2] at e
      by_cases j1 : j = 1
      · rw [if_pos j1] at e; simp at e
      · rw [if_neg j1] at e
        by_cases j2 : j = 2
        · omega
        · rw [if_neg j2] at e; simp at e
    · rw [if_neg k2] at e
      by_cases j1 : j = 1
      · rw [if_pos j1] at e; simp at e
      · rw [if_neg j1] at e
        by_cases j2 : j = 2
        · rw [if_pos j2] at e; simp at e
        · omega
theorem split_line {n : Nat} {k : Int} {name : Bs} (h : ∀ b ∈ name, b ≠ 32) : splitW (lineB n k name) = [Lib.decDigits n, wordB k, name, Lib.decDigits (checkB (headB n k name))] := by
  refine split_join _ (by simp) fun w hw => ?_
  simp only [List.mem_cons, List.not_mem_nil, or_false] at hw
  rcases hw with rfl | rfl | rfl | rfl
  · exact dec_blank
  · exact word_blank
  · exact h
  · exact dec_blank
theorem check_lt (l : Bs) : checkB l < 997 := by
  unfold checkB
  have : ∀ (l : Bs) (c : Nat), c < 997 → l.foldl (fun c b => (263 * c + b.toNat) % 997) c < 997 := by
    intro l
    induction l with
    | nil => intro c h; exact h
    | cons b l ih => intro c h; rw [List.foldl_cons]; exact ih _ (Nat.mod_lt _ (by omega))
  exact this l 17 (by omega)
end Go.Proofs.YtacecnffggffmaaDoor
