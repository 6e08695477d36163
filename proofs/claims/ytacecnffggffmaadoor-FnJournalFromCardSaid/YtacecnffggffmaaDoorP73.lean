/- Lines of events: both programs write them, and tell them again, alike. -/
import Derived.Test.YtacecnffggffmaaDoorP72
set_option linter.all false
namespace Go.Proofs.YtacecnffggffmaaDoor

def evOk (n : Int) (e : Event) : Prop := 1 ≤ n ∧ n ≤ 20 ∧ 1 ≤ e.kind ∧ e.kind ≤ 3 ∧ nameOk e.name = true
instance (n : Int) (e : Event) : Decidable (evOk n e) := by unfold evOk; infer_instance
def evT (n : Int) (e : Event) : Str := if evOk n e then ofB (lineB n.toNat e.kind (toB e.name)) else ⟨#[]⟩

theorem head_len {n : Nat} (h : n ≤ 20) (k : Int) (name : Bs) : (headB n k name).length ≤ name.length + 40 := by
  have h1 := dec_len n
  have h2 : (wordB k).length ≤ 6 := by
    unfold wordB
    split
    · decide
    · split <;> decide
  simp only [headB, joinW, List.length_append, List.length_cons]
  omega
theorem word_at {k : Int} (h1 : 1 ≤ k) (h2 : k ≤ 3) : geti evWords k = some (ofB (wordB k)) := by
  rcases (show k = 1 ∨ k = 2 ∨ k = 3 by omega) with rfl | rfl | rfl <;> rfl
theorem kind_at {N : Nat} {k : Int} (h1 : 1 ≤ k) (h2 : k ≤ 3) : m_spec_l5Kind N k = some (ofB (wordB k)) := by
  rcases (show k = 1 ∨ k = 2 ∨ k = 3 by omega) with rfl | rfl | rfl <;> kernel_rfl

theorem join_go {n : Nat} {k : Int} {nm : Str} : (((Lib.decDigits n ++ [32]) ++ wordB k) ++ [32]) ++ toB nm = headB n k (toB nm) := by
  simp [headB, joinW]
theorem join_go2 {n : Nat} {k : Int} {nm : Str} : (headB n k (toB nm) ++ [32]) ++ Lib.decDigits (checkB (headB n k (toB nm))) = lineB n k (toB nm) := by
  rw [line_head]; simp

theorem e_impl_EventText {N : Nat} {n : Int} {e : Event} (hs : e.name.size ≤ 2000000) (hN : 3000000 < N) : m_impl_EventText N n e = some (evT n e) := by
  unfold m_impl_EventText
  by_cases a1 : n < 1
  · rw [ltb_true.2 a1, cond_true, evT, if_neg (by unfold evOk; omega)]
  rw [ltb_false.2 (by omega), cond_false]
  by_cases a2 : 20 < n
  · rw [ltb_true.2 a2, cond_true, evT, if_neg (by unfold evOk; omega)]
  rw [ltb_false.2 (by omega), cond_false]
  have hv : m_impl_eventValid N e = some (decide (1 ≤ e.kind ∧ e.kind ≤ 3 ∧ nameOk e.name = true)) := by
    unfold m_impl_eventValid
    by_cases b1 : 1 ≤ e.kind
    · by_cases b2 : e.kind ≤ 3
      · rw [leb_true.2 b1, cond_true, leb_true.2 b2, cond_true, e_impl_NameValid (by omega) (by omega), Option.bind_some]
        cases nameOk e.name <;> simp [b1, b2]
      · rw [leb_true.2 b1, cond_true, leb_false.2 (by omega), cond_false]
        simp [b2]
    · rw [leb_false.2 (by omega), cond_false]
      simp [b1]
  rw [hv, Option.bind_some]
  by_cases hk : 1 ≤ e.kind ∧ e.kind ≤ 3 ∧ nameOk e.name = true
  · have hok : evOk n e := ⟨by omega, by omega, hk⟩
    have hsz := nameOk_size hk.2.2
    have hl := toB_len e.name
    have hd := dec_len n.toNat
    have hh := head_len (n := n.toNat) (by omega) e.kind (toB e.name)
    have hw : (wordB e.kind).length ≤ 6 := by
      rcases (show e.kind = 1 ∨ e.kind = 2 ∨ e.kind = 3 by omega) with h | h | h <;> rw [h] <;> decide
    have hc := check_lt (headB n.toNat e.kind (toB e.name))
    have hcl := dec_len (checkB (headB n.toNat e.kind (toB e.name)))
    rw [decide_eq_true hk, Bool.not_true, cond_false, word_at hk.1 hk.2.1, Option.bind_some, e_Itoa (by omega) (by omega), Option.bind_some]
    rw [show (⟨#[32]⟩ : Str) = ofB [32] from rfl, cat_B (by simp only [List.length_singleton]; omega), Option.bind_some]
    rw [cat_B (by simp only [List.length_append, List.length_singleton]; omega), Option.bind_some]
    rw [cat_B (by simp only [List.length_append, List.length_singleton]; omega), Option.bind_some]
    rw [← ofB_toB e.name, cat_B (by simp only [List.length_append, List.length_singleton]; omega), Option.bind_some, join_go]
    rw [cat_B (by simp only [List.length_singleton]; omega), Option.bind_some]
    rw [e_check (by rw [ofB_size]; omega) (by rw [ofB_size]; omega), Option.bind_some, toB_ofB, e_Itoa (by omega) (by omega), Option.bind_some, Int.toNat_natCast]
    rw [cat_B (by simp only [List.length_append, List.length_singleton]; omega), Option.bind_some, join_go2, evT, if_pos hok]
  · rw [decide_eq_false hk, Bool.not_false, cond_true, evT, if_neg (by unfold evOk; exact fun h => hk h.2.2)]

theorem e_spec_EventText {N : Nat} {n : Int} {e : Event} (hs : e.name.size ≤ 2000000) (hN : 3000000 < N) : m_spec_EventText N n e = some (evT n e) := by
  unfold m_spec_EventText
  rw [e_spec_l6In, Option.bind_some]
  by_cases a1 : 1 ≤ n ∧ n ≤ 20
  · have ea : (leb 1 n && leb n 20) = true := by rw [Bool.and_eq_true, leb_true, leb_true]; exact a1
    rw [ea, Bool.not_true, cond_false]
    have hv : m_spec_l5Ok N e = some (decide (1 ≤ e.kind ∧ e.kind ≤ 3 ∧ nameOk e.name = true)) := by
      unfold m_spec_l5Ok
      rw [e_spec_l6In, Option.bind_some]
      by_cases b : 1 ≤ e.kind ∧ e.kind ≤ 3
      · have eb : (leb 1 e.kind && leb e.kind 3) = true := by rw [Bool.and_eq_true, leb_true, leb_true]; exact b
        rw [eb, cond_true, e_spec_NameValid (by omega) (by omega), Option.bind_some]
        cases nameOk e.name <;> simp [b]
      · have eb : (leb 1 e.kind && leb e.kind 3) = false := by
          rw [← Bool.not_eq_true, Bool.and_eq_true, leb_true, leb_true]; exact b
        rw [eb, cond_false]
        exact congrArg some (decide_eq_false (fun h => b ⟨h.1, h.2.1⟩)).symm
    rw [hv, Option.bind_some]
    by_cases hk : 1 ≤ e.kind ∧ e.kind ≤ 3 ∧ nameOk e.name = true
    · have hok : evOk n e := ⟨by omega, by omega, hk⟩
      have hsz := nameOk_size hk.2.2
      have hl := toB_len e.name
      have hd := dec_len n.toNat
      have hh := head_len (n := n.toNat) (by omega) e.kind (toB e.name)
      have hw : (wordB e.kind).length ≤ 6 := by
        rcases (show e.kind = 1 ∨ e.kind = 2 ∨ e.kind = 3 by omega) with h | h | h <;> rw [h] <;> decide
      have hc := check_lt (headB n.toNat e.kind (toB e.name))
      have hcl := dec_len (checkB (headB n.toNat e.kind (toB e.name)))
      have en : m_spec_l6Dec N n = some (ofB (Lib.decDigits n.toNat)) := by
        have := e_Dec n.toNat N (by omega) (by omega)
        rw [show ((n.toNat : Nat) : Int) = n by omega] at this
        exact this
      rw [decide_eq_true hk, Bool.not_true, cond_false, en, Option.bind_some]
      rw [show (⟨#[32]⟩ : Str) = ofB [32] from rfl, cat_B (by simp only [List.length_singleton]; omega), Option.bind_some, kind_at hk.1 hk.2.1, Option.bind_some]
      rw [cat_B (by simp only [List.length_append, List.length_singleton]; omega), Option.bind_some]
      rw [cat_B (by simp only [List.length_append, List.length_singleton]; omega), Option.bind_some]
      rw [← ofB_toB e.name, cat_B (by simp only [List.length_append, List.length_singleton]; omega), Option.bind_some, join_go]
      rw [cat_B (by simp only [List.length_singleton]; omega), Option.bind_some]
      rw [e_sum (by rw [ofB_size]; omega) (by rw [ofB_size]; omega), Option.bind_some, toB_ofB, e_Dec _ N (by omega) (by omega), Option.bind_some]
      rw [cat_B (by simp only [List.length_append, List.length_singleton]; omega), Option.bind_some, join_go2, evT, if_pos hok]
    · rw [decide_eq_false hk, Bool.not_false, cond_true, evT, if_neg (by unfold evOk; exact fun h => hk h.2.2)]
  · have ea : (leb 1 n && leb n 20) = false := by
      rw [← Bool.not_eq_true, Bool.and_eq_true, leb_true, leb_true]; exact a1
    rw [ea, Bool.not_false, cond_true, evT, if_neg (by unfold evOk; exact fun h => a1 ⟨h.1, h.2.1⟩)]
end Go.Proofs.YtacecnffggffmaaDoor
