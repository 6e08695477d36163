/- Lines of events: texts as bytes, numbers, checks, words. -/
import Derived.Test.YtacecnffggffmaaDoorP70
import Derived.Test.YtacecnffggffmaaDoorP12
import Derived.Lib.Split
import Derived.Lib.CountLaws
import Derived.Lib.IndexLaws
import Derived.Lib.IndexBytes
set_option linter.all false
namespace Go.Proofs.YtacecnffggffmaaDoor

def ofB (l : Bs) : Str := ⟨l.toArray⟩
def toB (s : Str) : Bs := s.data.toList
theorem toB_ofB (l : Bs) : toB (ofB l) = l := rfl
theorem ofB_toB (s : Str) : ofB (toB s) = s := by cases s; rfl
theorem ofB_inj {a b : Bs} (h : ofB a = ofB b) : a = b := by
  have := congrArg toB h
  exact this
theorem toB_inj {a b : Str} (h : toB a = toB b) : a = b := by rw [← ofB_toB a, h, ofB_toB]
theorem toB_len (s : Str) : (toB s).length = s.size := size_toList s
theorem ofB_size (l : Bs) : (ofB l).size = l.length := rfl
theorem ofB_append (a b : Bs) : ofB a ++ ofB b = ofB (a ++ b) := by
  apply toB_inj
  show (ofB a ++ ofB b).data.toList = _
  rw [ByteArray.data_append]
  simp [ofB, toB]
theorem cat_B {a b : Bs} (h : a.length + b.length ≤ 4611686018427387904) : cat (ofB a) (ofB b) = some (ofB (a ++ b)) := by
  unfold cat
  rw [if_pos (by rw [ofB_size, ofB_size]; exact h), ofB_append]
theorem toB_extract (s : Str) (a b : Nat) : toB (s.extract a b) = ((toB s).drop a).take (b - a) := by
  unfold toB
  rw [Lib.extract_data]
theorem ssub_B {s : Str} {a b : Nat} (h1 : a ≤ b) (h2 : b ≤ s.size) : ssub s (a : Int) (b : Int) = some (ofB (((toB s).drop a).take (b - a))) := by
  unfold ssub
  rw [if_pos (by omega)]
  simp only [Int.toNat_natCast]
  rw [← toB_extract, ofB_toB]

/-! ## Numbers -/

theorem dec_len (n : Nat) : (Lib.decDigits n).length ≤ n + 1 := by
  induction n using Nat.strongRecOn with
  | _ n ih =>
    rw [Lib.decDigits]
    by_cases h : n < 10
    · rw [dif_pos h]; simp
    · have := ih (n / 10) (by omega)
      rw [dif_neg h, List.length_append, List.length_singleton]
      omega
theorem dec_pos (n : Nat) : 1 ≤ (Lib.decDigits n).length := by
  rw [Lib.decDigits]
  split <;> simp
theorem bstr_one (n : Nat) (h : n < 10) : bstr [u8w (w64 (48 + (n : Int)))] = ofB [UInt8.ofNat (48 + n)] := by
  have h1 : w64 (48 + (n : Int)) = 48 + (n : Int) := w64_id (by omega)
  have h2 : u8w (48 + (n : Int)) = ((48 + n : Nat) : Int) := by
    simp only [u8w, IntKind.wrap, IntKind.signed, IntKind.bits]
    simp
    omega
  rw [h1, h2]
  rfl
theorem e_Itoa {N : Nat} {n : Int} (h0 : 0 ≤ n) (h1 : n ≤ 1000000) : m_strconv_Itoa N n = some (ofB (Lib.decDigits n.toNat)) := by
  unfold m_strconv_Itoa Lib.itoa
  rw [if_pos (by omega), if_neg (by omega)]
  rfl
theorem e_Dec : ∀ (n N : Nat), n ≤ 1000000 → n < N → m_spec_l6Dec N (n : Int) = some (ofB (Lib.decDigits n))
  | n, N, h1, h2 => by
    obtain ⟨M, rfl⟩ : ∃ M, N = M + 1 := ⟨N - 1, by omega⟩
    unfold m_spec_l6Dec
    rw [ltb_false.2 (by omega), cond_false, ltb_false.2 (by omega), cond_false]
    by_cases h : n < 10
    · rw [ltb_true.2 (by omega), cond_true, bstr_one n h, Lib.decDigits, dif_pos h]
    · have e1 : Int.tdiv (n : Int) 10 = ((n / 10 : Nat) : Int) := by
        rw [Int.tdiv_eq_ediv_of_nonneg (by omega)]; omega
      have e2 : Int.tmod (n : Int) 10 = ((n % 10 : Nat) : Int) := by
        rw [Int.tmod_eq_emod_of_nonneg (by omega)]; omega
      have hl := dec_len (n / 10)
      rw [ltb_false.2 (by omega), cond_false, e1, e2, w64_id (by omega), e_Dec (n / 10) M (by omega) (by omega), Option.bind_some, bstr_one (n % 10) (by omega), cat_B (by simp only [List.length_singleton]; omega), Option.bind_some]
      conv => rhs; rw [Lib.decDigits, dif_neg h]
termination_by n => n
decreasing_by omega

def decL (n : Nat) : Bs := if n < 10 then [UInt8.ofNat (48 + n)] else [UInt8.ofNat (48 + n / 10), UInt8.ofNat (48 + n % 10)]
theorem dec_decL {n : Nat} (h : n < 100) : Lib.decDigits n = decL n := by
  rw [Lib.decDigits]
  unfold decL
  split
  · rfl
  · rw [Lib.decDigits, dif_pos (by omega)]; rfl
theorem to20 {n : Int} (h1 : 1 ≤ n) (h2 : n ≤ 20) : n = 1 ∨ n = 2 ∨ n = 3 ∨ n = 4 ∨ n = 5 ∨ n = 6 ∨ n = 7 ∨ n = 8 ∨ n = 9 ∨ n = 10 ∨ n = 11 ∨ n = 12 ∨ n = 13 ∨ n = 14 ∨ n = 15 ∨ n = 16 ∨ n = 17 ∨ n = 18 ∨ n = 19 ∨ n = 20 := by omega
theorem num_dec {n : Int} (h1 : 1 ≤ n) (h2 : n ≤ 20) {N : Nat} (hN : 5 ≤ N) : m_spec_l5Number N (ofB (Lib.decDigits n.toNat)) = some n := by
  obtain ⟨M, rfl⟩ : ∃ M, N = M + 5 := ⟨N - 5, by omega⟩
  rw [dec_decL (by omega)]
  rcases to20 h1 h2 with rfl | rfl | rfl | rfl | rfl | rfl | rfl | rfl | rfl | rfl | rfl | rfl | rfl | rfl | rfl | rfl | rfl | rfl | rfl | rfl <;> kernel_rfl
theorem atoi_dec {n : Int} (h1 : 1 ≤ n) (h2 : n ≤ 20) {N : Nat} : m_strconv_Atoi N (ofB (Lib.decDigits n.toNat)) = some (n, true) := by
  rw [dec_decL (by omega)]
  rcases to20 h1 h2 with rfl | rfl | rfl | rfl | rfl | rfl | rfl | rfl | rfl | rfl | rfl | rfl | rfl | rfl | rfl | rfl | rfl | rfl | rfl | rfl <;> kernel_rfl
theorem dec_inj {n m : Int} (h1 : 1 ≤ n) (h2 : n ≤ 20) (h3 : 1 ≤ m) (h4 : m ≤ 20) (e : Lib.decDigits n.toNat = Lib.decDigits m.toNat) : n = m := by
  have a := num_dec h1 h2 (N := 5) (by omega)
  have b := num_dec h3 h4 (N := 5) (by omega)
  rw [e, b] at a
  exact (Option.some.inj a).symm

/-! ## Checks -/

theorem go_sum : ∀ (l : Bs) (k c : Nat), c < 997 → goL (fun _ (x : UInt8) (s : Int) => (.inr (Int.tmod (w64 ((w64 (263 * s)) + ((x.toNat : Nat) : Int))) 997) : Sum Int Int)) (fun k s => (s, k)) l k (c : Int) = .brk (((l.foldl (fun c b => (263 * c + b.toNat) % 997) c : Nat) : Int), k + l.length)
  | [], k, c, _ => rfl
  | x :: t, k, c, h => by
    have hx := UInt8.toNat_lt x
    have e : Int.tmod (w64 ((w64 (263 * (c : Int))) + ((x.toNat : Nat) : Int))) 997 = (((263 * c + x.toNat) % 997 : Nat) : Int) := by
      rw [w64_id (n := 263 * (c : Int)) (by omega), w64_id (by omega), Int.tmod_eq_emod_of_nonneg (by omega)]
      omega
    unfold goL
    simp only [e]
    rw [go_sum t (k + 1) _ (Nat.mod_lt _ (by omega))]
    simp only [List.foldl_cons, List.length_cons, Nat.add_assoc, Nat.add_comm 1]
theorem e_check {N : Nat} {s : Str} (hs : s.size ≤ 4611686018427387904) (hN : s.size < N) : m_impl_checkOf N s = some ((checkB (toB s) : Nat) : Int) := by
  unfold m_impl_checkOf
  rw [ssz_ok hs, Option.bind_some, loop0 (fun n (c : Int) k => m_impl_checkOf_L5 N s n c k) s.data.toList (fun _ x c => .inr (Int.tmod (w64 ((w64 (263 * c)) + ((x.toNat : Nat) : Int))) 997)) (fun k c => (c, k)) N (by rw [size_toList]; exact hN) ?_ ?_ 17]
  · have := go_sum s.data.toList 0 17 (by omega)
    rw [show ((17 : Nat) : Int) = 17 from rfl] at this
    rw [this]; rfl
  · rintro n c k rfl
    simp only [m_impl_checkOf_L5]
    rw [ltb_false.2 (by rw [size_toList]; omega)]; rfl
  · intro n c k hk
    have hk' : k < s.size := by rw [← size_toList]; exact hk
    simp only [m_impl_checkOf_L5]
    rw [ltb_true.2 (by omega), cond_true, bget_ok hk', Option.bind_some, getElem_toList s k hk']
theorem e_sum {N : Nat} {s : Str} (hs : s.size ≤ 4611686018427387904) (hN : s.size < N) : m_spec_l5Sum N s = some ((checkB (toB s) : Nat) : Int) := by
  unfold m_spec_l5Sum
  rw [loop0 (fun n (c : Int) k => m_spec_l5Sum_L5 N s n c k) s.data.toList (fun _ x c => .inr (Int.tmod (w64 ((w64 (263 * c)) + ((x.toNat : Nat) : Int))) 997)) (fun k c => (c, k)) N (by rw [size_toList]; exact hN) ?_ ?_ 17]
  · have := go_sum s.data.toList 0 17 (by omega)
    rw [show ((17 : Nat) : Int) = 17 from rfl] at this
    rw [this]; rfl
  · rintro n c k rfl
    simp only [m_spec_l5Sum_L5, ssz_ok hs, Option.bind_some]
    rw [ltb_false.2 (by rw [size_toList]; omega)]; rfl
  · intro n c k hk
    have hk' : k < s.size := by rw [← size_toList]; exact hk
    simp only [m_spec_l5Sum_L5, ssz_ok hs, Option.bind_some]
    rw [ltb_true.2 (by omega), cond_true, bget_ok hk', Option.bind_some, getElem_toList s k hk']
end Go.Proofs.YtacecnffggffmaaDoor
