/- What the mirrors of the names' functions compute. -/
import Derived.Test.YtacecnffggffmaaDoorP0
import Derived.Test.YtacecnffggffmaaDoorWH
set_option linter.all false
namespace Go.Proofs.YtacecnffggffmaaDoor

theorem e_impl_NameValid {N : Nat} {s : Str} (hs : s.size ≤ 4611686018427387904) (hN : s.size < N) : m_impl_NameValid N s = some (nameOk s) := by
  unfold m_impl_NameValid
  rw [ssz_ok hs, Option.bind_some]
  by_cases h1 : s.size < 1
  · rw [ltb_true.2 (by omega), cond_true, nameOk_false (by omega)]
  by_cases h2 : 5 < s.size
  · rw [ltb_false.2 (by omega), cond_false, ltb_true.2 (by omega), cond_true, nameOk_false (by omega)]
  rw [ltb_false.2 (by omega), cond_false, ltb_false.2 (by omega), cond_false]
  rw [loop0 (fun n (_ : Unit) k => m_impl_NameValid_L8 N s n k) s.data.toList (fun k x _ => bif lower x then .inr () else .inl false) (fun k _ => k) N (by rw [size_toList]; exact hN) ?_ ?_ ()]
  · rw [goL_all (fun _ x => lower x)]
    split
    · rename_i h
      refine congrArg some ((nameOk_iff s).2 ⟨by omega, by omega, fun k hk => ?_⟩).symm
      have := h k (by rw [size_toList]; exact hk)
      rw [getElem_toList s k hk] at this
      simpa [lower] using this
    · rename_i h
      refine congrArg some (nameOk_false (fun hc => h fun i hi => ?_)).symm
      have hi' : i < s.size := by rw [← size_toList]; exact hi
      have := hc.2.2 i hi'
      rw [getElem_toList s i hi']
      simpa [lower] using this
  · rintro n _ k rfl
    simp only [m_impl_NameValid_L8]
    rw [ltb_false.2 (by rw [size_toList]; omega)]; rfl
  · intro n _ k hk
    have hk' : k < s.size := by rw [← size_toList]; exact hk
    simp only [m_impl_NameValid_L8]
    rw [ltb_true.2 (by omega), cond_true, bget_ok hk', Option.bind_some, Option.bind_some, getElem_toList s k hk']
    have hb : (s[k]'hk').toNat < 256 := UInt8.toNat_lt _
    unfold lower
    by_cases a1 : (s[k]'hk').toNat < 97
    · rw [ltb_true.2 (by omega)]; simp [show ¬ 97 ≤ (s[k]'hk').toNat by omega]
    · by_cases a2 : 122 < (s[k]'hk').toNat
      · rw [ltb_false.2 (by omega), ltb_true.2 (by omega)]; simp [show ¬ (s[k]'hk').toNat ≤ 122 by omega]
      · rw [ltb_false.2 (by omega), ltb_false.2 (by omega)]; simp [show 97 ≤ (s[k]'hk').toNat by omega, show (s[k]'hk').toNat ≤ 122 by omega]

theorem e_spec_l6In {N : Nat} {n a b : Int} : m_spec_l6In N n a b = some (leb a n && leb n b) := by
  unfold m_spec_l6In
  cases leb a n <;> rfl

theorem e_spec_NameValid {N : Nat} {s : Str} (hs : s.size ≤ 4611686018427387904) (hN : s.size < N) : m_spec_NameValid N s = some (nameOk s) := by
  unfold m_spec_NameValid
  rw [loop0 (fun n (_ : Unit) k => m_spec_NameValid_L4 N s n k) s.data.toList (fun k x _ => bif lower x then .inr () else .inl false) (fun k _ => k) N (by rw [size_toList]; exact hN) ?_ ?_ ()]
  · rw [goL_all (fun _ x => lower x)]
    split
    · rename_i h
      rw [Option.bind_some]
      simp only [Ex.go, e_spec_l6In, Option.bind_some]
      refine congrArg some ?_
      rw [Bool.eq_iff_iff, nameOk_iff, Bool.and_eq_true, leb_true, leb_true]
      constructor
      · rintro ⟨h1, h2⟩
        refine ⟨by omega, by omega, fun k hk => ?_⟩
        have := h k (by rw [size_toList]; exact hk)
        rw [getElem_toList s k hk] at this
        simpa [lower] using this
      · rintro ⟨h1, h2, _⟩
        omega
    · rename_i h
      refine congrArg some (nameOk_false (fun hc => h fun i hi => ?_)).symm
      have hi' : i < s.size := by rw [← size_toList]; exact hi
      have := hc.2.2 i hi'
      rw [getElem_toList s i hi']
      simpa [lower] using this
  · rintro n _ k rfl
    simp only [m_spec_NameValid_L4, ssz_ok hs, Option.bind_some]
    rw [ltb_false.2 (by rw [size_toList]; omega)]; rfl
  · intro n _ k hk
    have hk' : k < s.size := by rw [← size_toList]; exact hk
    simp only [m_spec_NameValid_L4, ssz_ok hs, Option.bind_some]
    rw [ltb_true.2 (by omega), cond_true, bget_ok hk', Option.bind_some, Option.bind_some, getElem_toList s k hk']
    have hb : (s[k]'hk').toNat < 256 := UInt8.toNat_lt _
    unfold lower
    by_cases a1 : (s[k]'hk').toNat < 97
    · rw [ltb_true.2 (by omega)]; simp [show ¬ 97 ≤ (s[k]'hk').toNat by omega]
    · by_cases a2 : 122 < (s[k]'hk').toNat
      · rw [ltb_false.2 (by omega), ltb_true.2 (by omega)]; simp [show ¬ (s[k]'hk').toNat ≤ 122 by omega]
      · rw [ltb_false.2 (by omega), ltb_false.2 (by omega)]; simp [show 97 ≤ (s[k]'hk').toNat by omega, show (s[k]'hk').toNat ≤ 122 by omega]

end Go.Proofs.YtacecnffggffmaaDoor
