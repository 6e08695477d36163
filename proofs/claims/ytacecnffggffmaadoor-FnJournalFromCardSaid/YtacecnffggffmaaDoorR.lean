/- Contracts: the reader of drawn codes, exactly. -/
import Derived.Test.YtacecnffggffmaaDoorV
set_option linter.all false
set_option maxRecDepth 100000
namespace Go.Proofs.YtacecnffggffmaaDoor
open Go.RowKit

theorem bytes_at {w : World} {M : List Nat} {a : Option Addr} {n c : Nat} {l : List UInt8} (h : bytesL.rd w M [.slice a n c] l) (h0 : 0 < l.length) :
    ∃ b o, a = some ⟨b, o, none⟩ ∧ ∀ j (hj : j < l.length), CellN w M b (o + j * 1) [.int .u8 l[j].toNat] := by
  obtain ⟨b, o, es, rfl, _, _⟩ := sl_at h h0
  refine ⟨b, o, rfl, fun j hj => ?_⟩
  obtain ⟨b', o', es', ha, hc, he⟩ := sl_at h hj
  cases ha
  cases he
  exact hc

/-- What the reader picks. -/
def pickv (cd : List UInt8) (p : Nat) (m : Int) : Nat :=
  if m < 1 then 0 else
  match cd[p]?, cd[p % cd.length]?, cd[(p * 7 + 3) % cd.length]? with
  | some y, _, _ => y.toNat % m.toNat
  | none, some y, some z => ((y.toNat * 131 + z.toNat * 1117 + p * 29 + p / cd.length * 53) ^^^ (y.toNat * 131 + z.toNat * 1117 + p * 29 + p / cd.length * 53) / 64) % m.toNat
  | _, _, _ => 0
theorem pickv_lt {cd : List UInt8} {p : Nat} {m : Int} (h : 1 ≤ m) : (pickv cd p m : Int) < m := by
  unfold pickv
  have h0 : 0 < m.toNat := by omega
  rw [if_neg (by omega)]
  split
  · have := Nat.mod_lt (‹UInt8›).toNat h0; omega
  · rename_i y z _ _ _
    have := Nat.mod_lt ((y.toNat * 131 + z.toNat * 1117 + p * 29 + p / cd.length * 53) ^^^ (y.toNat * 131 + z.toNat * 1117 + p * 29 + p / cd.length * 53) / 64) h0
    omega
  · omega

def m_spec_l6Rd_pick (_N : Nat) (cd : List UInt8) (p : Nat) (n : Int) : Option (Int × Nat) := if p ≤ 1000000000 then some (((pickv cd p n : Nat) : Int), p + 1) else none

theorem pick_lt {N : Nat} {cd : List UInt8} {p : Nat} {m : Int} {x : Int × Nat} (h : m_spec_l6Rd_pick N cd p m = some x) (hm : 1 ≤ m) : 0 ≤ x.1 ∧ x.1 < m := by
  unfold m_spec_l6Rd_pick at h
  split at h
  · injection h with h
    subst h
    have := pickv_lt (cd := cd) (p := p) hm
    exact ⟨by simp only; omega, this⟩
  · cases h

theorem newM_rd {r t : Nat} {cs cs' : List Value} {w w' : World} {H : List Ch} (h : Hp w [r] (blkC r t cs :: H) w') (hcs : cs = cs') : NewM w w' [r] [blkC r t cs'] := by
  subst hcs
  exact NewM.of _ h (List.Sublist.cons_cons _ (List.nil_sublist _))

set_option maxHeartbeats 2000000 in
theorem c_spec_l6Rd_pick (N : Nat) (cd : List UInt8) (p : Nat) (m : Int) (res : Int × Nat) (h : m_spec_l6Rd_pick N cd p m = some res) (w : World) {r ccd : Nat} {acd : Option Addr}
    (hr : (blkC r 63 [.slice acd cd.length ccd, .int .i64 ((p : Nat) : Int)]).A w) (hb : bytesL.rd w [r] [.slice acd cd.length ccd] cd) :
    Ret Tryd.prog 23 [.pointer (some ⟨r, 0, none⟩), .int .i64 m] w [r] fun v w' => v = .int .i64 res.1 ∧ NewM w w' [r] [blkC r 63 [.slice acd cd.length ccd, .int .i64 ((res.2 : Nat) : Int)]] := by
  unfold m_spec_l6Rd_pick at h
  have hp : p ≤ 1000000000 := by
    split at h
    · assumption
    · cases h
  rw [if_pos hp] at h
  injection h with h
  subst h
  obtain ⟨_, hc1, hc2⟩ := sl_len hb
  simp only [maxLen] at hc2
  by_cases h0 : m < 1 ∨ cd.length = 0
  · have hv : pickv cd p m = 0 := by
      unfold pickv
      rcases h0 with h0 | h0
      · rw [if_pos h0]
      · have : cd = [] := List.eq_nil_of_length_eq_zero h0
        subst this
        split <;> rfl
    refine ret_enter Tryd.func23 rfl Tryd.ntmps23 rfl (hp_one hr (by simp [blkC])) ?_
    (repeat' (first | (apply yg; first | exact yh_move rfl rfl | exact yh_assign rfl rfl | exact yh_cmpI rfl rfl rfl rfl | exact yh_pickT rfl rfl rfl | exact yh_pickF rfl rfl rfl | exact yh_not rfl rfl | exact yh_field Tb rfl rfl rfl | exact yh_loadB Tb (k := 0) rfl rfl rfl rfl rfl | exact yh_loadBA Tb (k := 0) rfl rfl rfl rfl rfl rfl | exact yh_lenS Tb rfl rfl rfl rfl | exact yh_lenT Tb rfl rfl rfl rfl | exact yh_extract rfl rfl rfl | exact yh_arI rfl rfl rfl rfl (by omega) | exact yh_index Tb rfl rfl rfl rfl rfl (by omega) rfl rfl | exact yh_indexP Tb rfl rfl rfl rfl (by omega) rfl rfl | exact yh_indexT Tb rfl rfl rfl rfl (by omega) rfl | exact yh_cmpS rfl rfl rfl rfl | exact yh_loadB Tb (k := 1) rfl rfl rfl rfl rfl | exact yh_loadB Tb (k := 2) rfl rfl rfl rfl rfl | exact yh_loadBA Tb (k := 1) rfl rfl rfl rfl rfl rfl | exact yh_loadBA Tb (k := 2) rfl rfl rfl rfl rfl rfl  | exact yh_nilCheck rfl rfl) | (refine id_wl ?_; first | refine wl_nil ?_ | refine wl_u rfl ?_ | refine wl_n rfl rfl rfl rfl ?_ | refine wl_g rfl rfl ?_ | refine wl_n0 rfl rfl rfl ?_ | (refine wl_s rfl rfl ?_ ?_ <;> (intro hc; try simp only [eqb_true, eqb_false, ltb_true, ltb_false, leb_true, leb_false, seq_iff, seq_false, Bool.not_eq_true, Bool.not_eq_false, Bool.not_eq_eq_eq_not, Bool.not_true, Bool.not_false, reduceCtorEq] at hc; try (exfalso; omega)))) | (refine id_ow ?_; first | refine ow_f rfl rfl rfl ?_ | (refine ow_boxA rfl rfl rfl rfl ?_; intro _) | (refine ow_box1 rfl rfl rfl rfl rfl ?_; intro _) | (refine ow_allocA Tb rfl rfl rfl rfl ?_; intro _) | (refine ow_alloc1 Tb rfl rfl rfl rfl rfl ?_; intro _) | refine ow_storeA Tb (k := 0) rfl rfl rfl rfl rfl rfl rfl rfl rfl ?_ | refine ow_storeA Tb (k := 1) rfl rfl rfl rfl rfl rfl rfl rfl rfl ?_ | refine ow_store1 Tb (k := 0) rfl rfl rfl rfl rfl rfl rfl rfl rfl ?_ | refine ow_store1 Tb (k := 1) rfl rfl rfl rfl rfl rfl rfl rfl rfl ?_ | (refine ow_litA Tb rfl rfl rfl rfl rfl rfl (by decide) rfl rfl ?_; intro _) | (refine ow_lit1 Tb rfl rfl rfl rfl rfl rfl rfl rfl rfl rfl ?_; intro _) | (refine ow_lit0 Tb rfl rfl rfl rfl rfl rfl ?_; intro _) ) | (refine id_kk ?_; first | refine kk_wl ?_ | refine kk_wa (by repeat (first | exact List.Sublist.refl _ | refine List.Sublist.cons _ ?_)) ?_) | (refine id_cw ?_; first | refine cw_seq ?_ | refine cw_region ?_ | refine cw_block ?_ | refine cw_skip ?_ | refine cw_ret ?_ | refine cw_exit ?_ | refine cw_drawH 7 [0, 1, 2, 3, 4, 5, 6, 7, 8, 9, 10, 11, 12, 13, 14, 15, 16, 17, 18, 19, 20, 21, 22, 23, 24, 25, 26, 27, 28, 29, 30, 31, 32, 33, 34, 35, 36, 37, 38, 39, 40, 41, 42, 43, 44, 45] (by kernel_rfl) ?_ | refine cw_true rfl ?_ | refine cw_false rfl ?_ | (refine cw_split rfl ?_ ?_ <;> (intro hc; try simp only [eqb_true, eqb_false, ltb_true, ltb_false, leb_true, leb_false, seq_iff, seq_false, Bool.not_eq_true, Bool.not_eq_false, Bool.not_eq_eq_eq_not, Bool.not_true, Bool.not_false, reduceCtorEq] at hc; try (exfalso; omega))) ) | (refine id_ex ?_; first | refine ex_seq ?_ | refine ex_then_ret ?_ | refine ex_block_ret ?_ | refine ex_then_exit ?_ | refine ex_block_exit ?_ | refine ex_block_normal ?_ | refine ex_block_other rfl ?_ | refine ex_ret1 rfl rfl (fun wq hq => ⟨_, rfl, hq.ext, ?_⟩) | refine ex_ret2 rfl rfl rfl (fun wq hq => ⟨_, rfl, hq.ext, ?_⟩)) | (refine id_wa ?_; first | refine wa_take rfl rfl rfl rfl rfl (by kernel_rfl) (fun _ _ _ _ h => h) ?_ | refine wa_callK rfl rfl rfl (by kernel_rfl) ?_ | refine wa_skip rfl rfl rfl rfl (by kernel_rfl) (fun _ _ _ h => h) ?_ | refine wa_done (by kernel_rfl) ?_ | (refine wa_split rfl rfl rfl ?_ ?_ <;> (intro hc; try simp only [eqb_true, eqb_false, ltb_true, ltb_false, leb_true, leb_false, seq_iff, seq_false, Bool.not_eq_true, Bool.not_eq_false, Bool.not_eq_eq_eq_not, Bool.not_true, Bool.not_false, reduceCtorEq] at hc; try (exfalso; omega))))))
    all_goals exact ⟨by rw [hv]; rfl, newM_rd hq rfl⟩
  · obtain ⟨q, rfl⟩ : ∃ q : Nat, m = q := ⟨m.toNat, by omega⟩
    obtain ⟨b, o, rfl, hcell⟩ := bytes_at hb (by omega)
    rcases Nat.lt_or_ge p cd.length with hlt | hge
    · have ck := hcell p hlt
      have hy : cd[p].toNat < 256 := UInt8.toNat_lt _
      have hv : pickv cd p q = cd[p].toNat % q := by
        unfold pickv
        rw [if_neg (by omega), List.getElem?_eq_getElem hlt]
        simp
      obtain ⟨y, hy'⟩ : ∃ y, y = cd[p].toNat := ⟨_, rfl⟩
      rw [← hy'] at ck hy hv
      refine ret_enter Tryd.func23 rfl Tryd.ntmps23 rfl (hp_one hr (by simp [blkC])) ?_
      (repeat' (first | (apply yg; first | exact yh_move rfl rfl | exact yh_assign rfl rfl | exact yh_cmpI rfl rfl rfl rfl | exact yh_pickT rfl rfl rfl | exact yh_pickF rfl rfl rfl | exact yh_not rfl rfl | exact yh_field Tb rfl rfl rfl | exact yh_loadB Tb (k := 0) rfl rfl rfl rfl rfl | exact yh_loadBA Tb (k := 0) rfl rfl rfl rfl rfl rfl | exact yh_lenS Tb rfl rfl rfl rfl | exact yh_lenT Tb rfl rfl rfl rfl | exact yh_extract rfl rfl rfl | exact yh_arI rfl rfl rfl rfl (by omega) | exact yh_index Tb rfl rfl rfl rfl rfl (by omega) rfl rfl | exact yh_indexP Tb rfl rfl rfl rfl (by omega) rfl rfl | exact yh_indexT Tb rfl rfl rfl rfl (by omega) rfl | exact yh_cmpS rfl rfl rfl rfl | exact yh_loadB Tb (k := 1) rfl rfl rfl rfl rfl | exact yh_loadB Tb (k := 2) rfl rfl rfl rfl rfl | exact yh_loadBA Tb (k := 1) rfl rfl rfl rfl rfl rfl | exact yh_loadBA Tb (k := 2) rfl rfl rfl rfl rfl rfl  | exact yh_nilCheck rfl rfl | exact yh_index (k := p) Tb rfl rfl rfl rfl (by omega) (by omega) rfl rfl | exact yh_loadAN Tb rfl rfl rfl rfl ck rfl | exact yh_loadAF Tb (j := 0) rfl rfl rfl ck rfl | exact yh_conv rfl rfl (by kernel_rfl) (by omega) | exact yh_rem y q rfl rfl rfl rfl rfl (by omega)) | (refine id_wl ?_; first | refine wl_nil ?_ | refine wl_u rfl ?_ | refine wl_n rfl rfl rfl rfl ?_ | refine wl_g rfl rfl ?_ | refine wl_n0 rfl rfl rfl ?_ | (refine wl_s rfl rfl ?_ ?_ <;> (intro hc; try simp only [eqb_true, eqb_false, ltb_true, ltb_false, leb_true, leb_false, seq_iff, seq_false, Bool.not_eq_true, Bool.not_eq_false, Bool.not_eq_eq_eq_not, Bool.not_true, Bool.not_false, reduceCtorEq] at hc; try (exfalso; omega)))) | (refine id_ow ?_; first | refine ow_f rfl rfl rfl ?_ | (refine ow_boxA rfl rfl rfl rfl ?_; intro _) | (refine ow_box1 rfl rfl rfl rfl rfl ?_; intro _) | (refine ow_allocA Tb rfl rfl rfl rfl ?_; intro _) | (refine ow_alloc1 Tb rfl rfl rfl rfl rfl ?_; intro _) | refine ow_storeA Tb (k := 0) rfl rfl rfl rfl rfl rfl rfl rfl rfl ?_ | refine ow_storeA Tb (k := 1) rfl rfl rfl rfl rfl rfl rfl rfl rfl ?_ | refine ow_store1 Tb (k := 0) rfl rfl rfl rfl rfl rfl rfl rfl rfl ?_ | refine ow_store1 Tb (k := 1) rfl rfl rfl rfl rfl rfl rfl rfl rfl ?_ | (refine ow_litA Tb rfl rfl rfl rfl rfl rfl (by decide) rfl rfl ?_; intro _) | (refine ow_lit1 Tb rfl rfl rfl rfl rfl rfl rfl rfl rfl rfl ?_; intro _) | (refine ow_lit0 Tb rfl rfl rfl rfl rfl rfl ?_; intro _) ) | (refine id_kk ?_; first | refine kk_wl ?_ | refine kk_wa (by repeat (first | exact List.Sublist.refl _ | refine List.Sublist.cons _ ?_)) ?_) | (refine id_cw ?_; first | refine cw_seq ?_ | refine cw_region ?_ | refine cw_block ?_ | refine cw_skip ?_ | refine cw_ret ?_ | refine cw_exit ?_ | refine cw_drawH 7 [0, 1, 2, 3, 4, 5, 6, 7, 8, 9, 10, 11, 12, 13, 14, 15, 16, 17, 18, 19, 20, 21, 22, 23, 24, 25, 26, 27, 28, 29, 30, 31, 32, 33, 34, 35, 36, 37, 38, 39, 40, 41, 42, 43, 44, 45] (by kernel_rfl) ?_ | refine cw_true rfl ?_ | refine cw_false rfl ?_ | (refine cw_split rfl ?_ ?_ <;> (intro hc; try simp only [eqb_true, eqb_false, ltb_true, ltb_false, leb_true, leb_false, seq_iff, seq_false, Bool.not_eq_true, Bool.not_eq_false, Bool.not_eq_eq_eq_not, Bool.not_true, Bool.not_false, reduceCtorEq] at hc; try (exfalso; omega))) ) | (refine id_ex ?_; first | refine ex_seq ?_ | refine ex_then_ret ?_ | refine ex_block_ret ?_ | refine ex_then_exit ?_ | refine ex_block_exit ?_ | refine ex_block_normal ?_ | refine ex_block_other rfl ?_ | refine ex_ret1 rfl rfl (fun wq hq => ⟨_, rfl, hq.ext, ?_⟩) | refine ex_ret2 rfl rfl rfl (fun wq hq => ⟨_, rfl, hq.ext, ?_⟩)) | (refine id_wa ?_; first | refine wa_take rfl rfl rfl rfl rfl (by kernel_rfl) (fun _ _ _ _ h => h) ?_ | refine wa_callK rfl rfl rfl (by kernel_rfl) ?_ | refine wa_skip rfl rfl rfl rfl (by kernel_rfl) (fun _ _ _ h => h) ?_ | refine wa_done (by kernel_rfl) ?_ | (refine wa_split rfl rfl rfl ?_ ?_ <;> (intro hc; try simp only [eqb_true, eqb_false, ltb_true, ltb_false, leb_true, leb_false, seq_iff, seq_false, Bool.not_eq_true, Bool.not_eq_false, Bool.not_eq_eq_eq_not, Bool.not_true, Bool.not_false, reduceCtorEq] at hc; try (exfalso; omega))))))
      exact ⟨by rw [hv], newM_rd hq rfl⟩
    · have ck := hcell (p % cd.length) (Nat.mod_lt _ (by omega))
      have ck' := hcell ((p * 7 + 3) % cd.length) (Nat.mod_lt _ (by omega))
      have hm1 := Nat.mod_lt p (show 0 < cd.length by omega)
      have hm2 := Nat.mod_lt (p * 7 + 3) (show 0 < cd.length by omega)
      have hdv := Nat.div_le_self p cd.length
      have hy : cd[p % cd.length].toNat < 256 := UInt8.toNat_lt _
      have hz : cd[(p * 7 + 3) % cd.length].toNat < 256 := UInt8.toNat_lt _
      have hv : pickv cd p q = ((cd[p % cd.length].toNat * 131 + cd[(p * 7 + 3) % cd.length].toNat * 1117 + p * 29 + p / cd.length * 53) ^^^ (cd[p % cd.length].toNat * 131 + cd[(p * 7 + 3) % cd.length].toNat * 1117 + p * 29 + p / cd.length * 53) / 64) % q := by
        unfold pickv
        rw [if_neg (by omega), List.getElem?_eq_none hge, List.getElem?_eq_getElem hm1, List.getElem?_eq_getElem hm2]
        simp
      obtain ⟨y, hy'⟩ : ∃ y, y = cd[p % cd.length].toNat := ⟨_, rfl⟩
      obtain ⟨z, hz'⟩ : ∃ z, z = cd[(p * 7 + 3) % cd.length].toNat := ⟨_, rfl⟩
      rw [← hy'] at ck hy
      rw [← hz'] at ck' hz
      rw [← hy', ← hz'] at hv
      obtain ⟨x, hx⟩ : ∃ x, x = y * 131 + z * 1117 + p * 29 + p / cd.length * 53 := ⟨_, rfl⟩
      rw [← hx] at hv
      have hx64 := Nat.div_le_self x 64
      have hxx : x ^^^ x / 64 < 2 ^ 62 := Nat.xor_lt_two_pow (by omega) (by omega)
      refine ret_enter Tryd.func23 rfl Tryd.ntmps23 rfl (hp_one hr (by simp [blkC])) ?_
      (repeat' (first | (apply yg; first | exact yh_move rfl rfl | exact yh_assign rfl rfl | exact yh_cmpI rfl rfl rfl rfl | exact yh_pickT rfl rfl rfl | exact yh_pickF rfl rfl rfl | exact yh_not rfl rfl | exact yh_field Tb rfl rfl rfl | exact yh_loadB Tb (k := 0) rfl rfl rfl rfl rfl | exact yh_loadBA Tb (k := 0) rfl rfl rfl rfl rfl rfl | exact yh_lenS Tb rfl rfl rfl rfl | exact yh_lenT Tb rfl rfl rfl rfl | exact yh_extract rfl rfl rfl | exact yh_arI rfl rfl rfl rfl (by omega) | exact yh_index Tb rfl rfl rfl rfl rfl (by omega) rfl rfl | exact yh_indexP Tb rfl rfl rfl rfl (by omega) rfl rfl | exact yh_indexT Tb rfl rfl rfl rfl (by omega) rfl | exact yh_cmpS rfl rfl rfl rfl | exact yh_loadB Tb (k := 1) rfl rfl rfl rfl rfl | exact yh_loadB Tb (k := 2) rfl rfl rfl rfl rfl | exact yh_loadBA Tb (k := 1) rfl rfl rfl rfl rfl rfl | exact yh_loadBA Tb (k := 2) rfl rfl rfl rfl rfl rfl  | exact yh_nilCheck rfl rfl | exact yh_index (k := p % cd.length) Tb rfl rfl rfl rfl rfl (by omega) rfl rfl | exact yh_index (k := (p * 7 + 3) % cd.length) Tb rfl rfl rfl rfl rfl (by omega) rfl rfl | exact yh_loadAN Tb rfl rfl rfl rfl ck rfl | exact yh_loadAF Tb (j := 0) rfl rfl rfl ck rfl | exact yh_loadAN Tb rfl rfl rfl rfl ck' rfl | exact yh_loadAF Tb (j := 0) rfl rfl rfl ck' rfl | exact yh_conv rfl rfl (by kernel_rfl) (by omega) | exact yh_rem p cd.length rfl rfl rfl (by omega) rfl (by omega) | exact yh_rem (p * 7 + 3) cd.length rfl rfl rfl (by omega) rfl (by omega) | exact yh_quo p cd.length rfl rfl rfl (by omega) rfl (by omega) (by omega) | exact yh_quo x 64 rfl rfl rfl (by omega) rfl (by omega) (by omega) | exact yh_xor x (x / 64) rfl rfl rfl (by omega) rfl (by omega) (by omega) | exact yh_rem (x ^^^ x / 64) q rfl rfl rfl rfl rfl (by omega)) | (refine id_wl ?_; first | refine wl_nil ?_ | refine wl_u rfl ?_ | refine wl_n rfl rfl rfl rfl ?_ | refine wl_g rfl rfl ?_ | refine wl_n0 rfl rfl rfl ?_ | (refine wl_s rfl rfl ?_ ?_ <;> (intro hc; try simp only [eqb_true, eqb_false, ltb_true, ltb_false, leb_true, leb_false, seq_iff, seq_false, Bool.not_eq_true, Bool.not_eq_false, Bool.not_eq_eq_eq_not, Bool.not_true, Bool.not_false, reduceCtorEq] at hc; try (exfalso; omega)))) | (refine id_ow ?_; first | refine ow_f rfl rfl rfl ?_ | (refine ow_boxA rfl rfl rfl rfl ?_; intro _) | (refine ow_box1 rfl rfl rfl rfl rfl ?_; intro _) | (refine ow_allocA Tb rfl rfl rfl rfl ?_; intro _) | (refine ow_alloc1 Tb rfl rfl rfl rfl rfl ?_; intro _) | refine ow_storeA Tb (k := 0) rfl rfl rfl rfl rfl rfl rfl rfl rfl ?_ | refine ow_storeA Tb (k := 1) rfl rfl rfl rfl rfl rfl rfl rfl rfl ?_ | refine ow_store1 Tb (k := 0) rfl rfl rfl rfl rfl rfl rfl rfl rfl ?_ | refine ow_store1 Tb (k := 1) rfl rfl rfl rfl rfl rfl rfl rfl rfl ?_ | (refine ow_litA Tb rfl rfl rfl rfl rfl rfl (by decide) rfl rfl ?_; intro _) | (refine ow_lit1 Tb rfl rfl rfl rfl rfl rfl rfl rfl rfl rfl ?_; intro _) | (refine ow_lit0 Tb rfl rfl rfl rfl rfl rfl ?_; intro _) ) | (refine id_kk ?_; first | refine kk_wl ?_ | refine kk_wa (by repeat (first | exact List.Sublist.refl _ | refine List.Sublist.cons _ ?_)) ?_) | (refine id_cw ?_; first | refine cw_seq ?_ | refine cw_region ?_ | refine cw_block ?_ | refine cw_skip ?_ | refine cw_ret ?_ | refine cw_exit ?_ | refine cw_drawH 7 [0, 1, 2, 3, 4, 5, 6, 7, 8, 9, 10, 11, 12, 13, 14, 15, 16, 17, 18, 19, 20, 21, 22, 23, 24, 25, 26, 27, 28, 29, 30, 31, 32, 33, 34, 35, 36, 37, 38, 39, 40, 41, 42, 43, 44, 45] (by kernel_rfl) ?_ | refine cw_true rfl ?_ | refine cw_false rfl ?_ | (refine cw_split rfl ?_ ?_ <;> (intro hc; try simp only [eqb_true, eqb_false, ltb_true, ltb_false, leb_true, leb_false, seq_iff, seq_false, Bool.not_eq_true, Bool.not_eq_false, Bool.not_eq_eq_eq_not, Bool.not_true, Bool.not_false, reduceCtorEq] at hc; try (exfalso; omega))) ) | (refine id_ex ?_; first | refine ex_seq ?_ | refine ex_then_ret ?_ | refine ex_block_ret ?_ | refine ex_then_exit ?_ | refine ex_block_exit ?_ | refine ex_block_normal ?_ | refine ex_block_other rfl ?_ | refine ex_ret1 rfl rfl (fun wq hq => ⟨_, rfl, hq.ext, ?_⟩) | refine ex_ret2 rfl rfl rfl (fun wq hq => ⟨_, rfl, hq.ext, ?_⟩)) | (refine id_wa ?_; first | refine wa_take rfl rfl rfl rfl rfl (by kernel_rfl) (fun _ _ _ _ h => h) ?_ | refine wa_callK rfl rfl rfl (by kernel_rfl) ?_ | refine wa_skip rfl rfl rfl rfl (by kernel_rfl) (fun _ _ _ h => h) ?_ | refine wa_done (by kernel_rfl) ?_ | (refine wa_split rfl rfl rfl ?_ ?_ <;> (intro hc; try simp only [eqb_true, eqb_false, ltb_true, ltb_false, leb_true, leb_false, seq_iff, seq_false, Bool.not_eq_true, Bool.not_eq_false, Bool.not_eq_eq_eq_not, Bool.not_true, Bool.not_false, reduceCtorEq] at hc; try (exfalso; omega))))))
      exact ⟨by rw [hv], newM_rd hq rfl⟩

theorem c_spec_l6Open (cd : List UInt8) (w : World) {a : Option Addr} {c : Nat} (h : bytesL.rd w [] [.slice a cd.length c] cd) :
    Ret Tryd.prog 21 [.slice a cd.length c] w [] fun v w' => ∃ r, v = .pointer (some ⟨r, 0, none⟩) ∧ NewC w w' [blkC r 63 [.slice a (cd.take 2000).length c, .int .i64 ((0 : Nat) : Int)]] := by
  obtain ⟨_, hc1, hc2⟩ := sl_len h
  simp only [maxLen] at hc2
  refine ret_enter Tryd.func21 rfl Tryd.ntmps21 rfl (Hp.refl w _) ?_
  rcases Nat.lt_or_ge 2000 cd.length with hl | hl
  · have e : (cd.take 2000).length = 2000 := by rw [List.length_take]; omega
    rw [e]
    (repeat' (first | (apply yg; first | exact yh_move rfl rfl | exact yh_assign rfl rfl | exact yh_cmpI rfl rfl rfl rfl | exact yh_pickT rfl rfl rfl | exact yh_pickF rfl rfl rfl | exact yh_not rfl rfl | exact yh_field Tb rfl rfl rfl | exact yh_loadB Tb (k := 0) rfl rfl rfl rfl rfl | exact yh_loadBA Tb (k := 0) rfl rfl rfl rfl rfl rfl | exact yh_lenS Tb rfl rfl rfl rfl | exact yh_lenT Tb rfl rfl rfl rfl | exact yh_extract rfl rfl rfl | exact yh_arI rfl rfl rfl rfl (by omega) | exact yh_index Tb rfl rfl rfl rfl rfl (by omega) rfl rfl | exact yh_indexP Tb rfl rfl rfl rfl (by omega) rfl rfl | exact yh_indexT Tb rfl rfl rfl rfl (by omega) rfl | exact yh_cmpS rfl rfl rfl rfl | exact yh_loadB Tb (k := 1) rfl rfl rfl rfl rfl | exact yh_loadB Tb (k := 2) rfl rfl rfl rfl rfl | exact yh_loadBA Tb (k := 1) rfl rfl rfl rfl rfl rfl | exact yh_loadBA Tb (k := 2) rfl rfl rfl rfl rfl rfl  | exact yh_sliceH (k := 2000) Tb rfl rfl rfl rfl (by omega) rfl rfl | exact yh_build [.slice a 2000 c, .int .i64 0] rfl rfl (by kernel_rfl)) | (refine id_wl ?_; first | refine wl_nil ?_ | refine wl_u rfl ?_ | refine wl_n rfl rfl rfl rfl ?_ | refine wl_g rfl rfl ?_ | refine wl_n0 rfl rfl rfl ?_ | (refine wl_s rfl rfl ?_ ?_ <;> (intro hc; try simp only [eqb_true, eqb_false, ltb_true, ltb_false, leb_true, leb_false, seq_iff, seq_false, Bool.not_eq_true, Bool.not_eq_false, Bool.not_eq_eq_eq_not, Bool.not_true, Bool.not_false, reduceCtorEq] at hc; try (exfalso; omega)))) | (refine id_ow ?_; first | refine ow_f rfl rfl rfl ?_ | (refine ow_boxA rfl rfl rfl rfl ?_; intro _) | (refine ow_box1 rfl rfl rfl rfl rfl ?_; intro _) | (refine ow_allocA Tb rfl rfl rfl rfl ?_; intro _) | (refine ow_alloc1 Tb rfl rfl rfl rfl rfl ?_; intro _) | refine ow_storeA Tb (k := 0) rfl rfl rfl rfl rfl rfl rfl rfl rfl ?_ | refine ow_storeA Tb (k := 1) rfl rfl rfl rfl rfl rfl rfl rfl rfl ?_ | refine ow_store1 Tb (k := 0) rfl rfl rfl rfl rfl rfl rfl rfl rfl ?_ | refine ow_store1 Tb (k := 1) rfl rfl rfl rfl rfl rfl rfl rfl rfl ?_ | (refine ow_litA Tb rfl rfl rfl rfl rfl rfl (by decide) rfl rfl ?_; intro _) | (refine ow_lit1 Tb rfl rfl rfl rfl rfl rfl rfl rfl rfl rfl ?_; intro _) | (refine ow_lit0 Tb rfl rfl rfl rfl rfl rfl ?_; intro _) ) | (refine id_kk ?_; first | refine kk_wl ?_ | refine kk_wa (by repeat (first | exact List.Sublist.refl _ | refine List.Sublist.cons _ ?_)) ?_) | (refine id_cw ?_; first | refine cw_seq ?_ | refine cw_region ?_ | refine cw_block ?_ | refine cw_skip ?_ | refine cw_ret ?_ | refine cw_exit ?_ | fail | refine cw_true rfl ?_ | refine cw_false rfl ?_ | (refine cw_split rfl ?_ ?_ <;> (intro hc; try simp only [eqb_true, eqb_false, ltb_true, ltb_false, leb_true, leb_false, seq_iff, seq_false, Bool.not_eq_true, Bool.not_eq_false, Bool.not_eq_eq_eq_not, Bool.not_true, Bool.not_false, reduceCtorEq] at hc; try (exfalso; omega))) ) | (refine id_ex ?_; first | refine ex_seq ?_ | refine ex_then_ret ?_ | refine ex_block_ret ?_ | refine ex_then_exit ?_ | refine ex_block_exit ?_ | refine ex_block_normal ?_ | refine ex_block_other rfl ?_ | refine ex_ret1 rfl rfl (fun wq hq => ⟨_, rfl, hq.ext, ?_⟩) | refine ex_ret2 rfl rfl rfl (fun wq hq => ⟨_, rfl, hq.ext, ?_⟩)) | (refine id_wa ?_; first | refine wa_take rfl rfl rfl rfl rfl (by kernel_rfl) (fun _ _ _ _ h => h) ?_ | refine wa_callK rfl rfl rfl (by kernel_rfl) ?_ | refine wa_skip rfl rfl rfl rfl (by kernel_rfl) (fun _ _ _ h => h) ?_ | refine wa_done (by kernel_rfl) ?_ | (refine wa_split rfl rfl rfl ?_ ?_ <;> (intro hc; try simp only [eqb_true, eqb_false, ltb_true, ltb_false, leb_true, leb_false, seq_iff, seq_false, Bool.not_eq_true, Bool.not_eq_false, Bool.not_eq_eq_eq_not, Bool.not_true, Bool.not_false, reduceCtorEq] at hc; try (exfalso; omega))))))
    exact ⟨_, rfl, NewC.of _ hq (List.Sublist.cons_cons _ (List.nil_sublist _))⟩
  · have e : (cd.take 2000).length = cd.length := by rw [List.length_take]; omega
    rw [e]
    (repeat' (first | (apply yg; first | exact yh_move rfl rfl | exact yh_assign rfl rfl | exact yh_cmpI rfl rfl rfl rfl | exact yh_pickT rfl rfl rfl | exact yh_pickF rfl rfl rfl | exact yh_not rfl rfl | exact yh_field Tb rfl rfl rfl | exact yh_loadB Tb (k := 0) rfl rfl rfl rfl rfl | exact yh_loadBA Tb (k := 0) rfl rfl rfl rfl rfl rfl | exact yh_lenS Tb rfl rfl rfl rfl | exact yh_lenT Tb rfl rfl rfl rfl | exact yh_extract rfl rfl rfl | exact yh_arI rfl rfl rfl rfl (by omega) | exact yh_index Tb rfl rfl rfl rfl rfl (by omega) rfl rfl | exact yh_indexP Tb rfl rfl rfl rfl (by omega) rfl rfl | exact yh_indexT Tb rfl rfl rfl rfl (by omega) rfl | exact yh_cmpS rfl rfl rfl rfl | exact yh_loadB Tb (k := 1) rfl rfl rfl rfl rfl | exact yh_loadB Tb (k := 2) rfl rfl rfl rfl rfl | exact yh_loadBA Tb (k := 1) rfl rfl rfl rfl rfl rfl | exact yh_loadBA Tb (k := 2) rfl rfl rfl rfl rfl rfl  | exact yh_build [.slice a cd.length c, .int .i64 0] rfl rfl (by kernel_rfl)) | (refine id_wl ?_; first | refine wl_nil ?_ | refine wl_u rfl ?_ | refine wl_n rfl rfl rfl rfl ?_ | refine wl_g rfl rfl ?_ | refine wl_n0 rfl rfl rfl ?_ | (refine wl_s rfl rfl ?_ ?_ <;> (intro hc; try simp only [eqb_true, eqb_false, ltb_true, ltb_false, leb_true, leb_false, seq_iff, seq_false, Bool.not_eq_true, Bool.not_eq_false, Bool.not_eq_eq_eq_not, Bool.not_true, Bool.not_false, reduceCtorEq] at hc; try (exfalso; omega)))) | (refine id_ow ?_; first | refine ow_f rfl rfl rfl ?_ | (refine ow_boxA rfl rfl rfl rfl ?_; intro _) | (refine ow_box1 rfl rfl rfl rfl rfl ?_; intro _) | (refine ow_allocA Tb rfl rfl rfl rfl ?_; intro _) | (refine ow_alloc1 Tb rfl rfl rfl rfl rfl ?_; intro _) | refine ow_storeA Tb (k := 0) rfl rfl rfl rfl rfl rfl rfl rfl rfl ?_ | refine ow_storeA Tb (k := 1) rfl rfl rfl rfl rfl rfl rfl rfl rfl ?_ | refine ow_store1 Tb (k := 0) rfl rfl rfl rfl rfl rfl rfl rfl rfl ?_ | refine ow_store1 Tb (k := 1) rfl rfl rfl rfl rfl rfl rfl rfl rfl ?_ | (refine ow_litA Tb rfl rfl rfl rfl rfl rfl (by decide) rfl rfl ?_; intro _) | (refine ow_lit1 Tb rfl rfl rfl rfl rfl rfl rfl rfl rfl rfl ?_; intro _) | (refine ow_lit0 Tb rfl rfl rfl rfl rfl rfl ?_; intro _) ) | (refine id_kk ?_; first | refine kk_wl ?_ | refine kk_wa (by repeat (first | exact List.Sublist.refl _ | refine List.Sublist.cons _ ?_)) ?_) | (refine id_cw ?_; first | refine cw_seq ?_ | refine cw_region ?_ | refine cw_block ?_ | refine cw_skip ?_ | refine cw_ret ?_ | refine cw_exit ?_ | fail | refine cw_true rfl ?_ | refine cw_false rfl ?_ | (refine cw_split rfl ?_ ?_ <;> (intro hc; try simp only [eqb_true, eqb_false, ltb_true, ltb_false, leb_true, leb_false, seq_iff, seq_false, Bool.not_eq_true, Bool.not_eq_false, Bool.not_eq_eq_eq_not, Bool.not_true, Bool.not_false, reduceCtorEq] at hc; try (exfalso; omega))) ) | (refine id_ex ?_; first | refine ex_seq ?_ | refine ex_then_ret ?_ | refine ex_block_ret ?_ | refine ex_then_exit ?_ | refine ex_block_exit ?_ | refine ex_block_normal ?_ | refine ex_block_other rfl ?_ | refine ex_ret1 rfl rfl (fun wq hq => ⟨_, rfl, hq.ext, ?_⟩) | refine ex_ret2 rfl rfl rfl (fun wq hq => ⟨_, rfl, hq.ext, ?_⟩)) | (refine id_wa ?_; first | refine wa_take rfl rfl rfl rfl rfl (by kernel_rfl) (fun _ _ _ _ h => h) ?_ | refine wa_callK rfl rfl rfl (by kernel_rfl) ?_ | refine wa_skip rfl rfl rfl rfl (by kernel_rfl) (fun _ _ _ h => h) ?_ | refine wa_done (by kernel_rfl) ?_ | (refine wa_split rfl rfl rfl ?_ ?_ <;> (intro hc; try simp only [eqb_true, eqb_false, ltb_true, ltb_false, leb_true, leb_false, seq_iff, seq_false, Bool.not_eq_true, Bool.not_eq_false, Bool.not_eq_eq_eq_not, Bool.not_true, Bool.not_false, reduceCtorEq] at hc; try (exfalso; omega))))))
    exact ⟨_, rfl, NewC.of _ hq (List.Sublist.cons_cons _ (List.nil_sublist _))⟩

/-- The reader is opened: a call. -/
theorem ow_open {Q : Exit → Act → World → Prop} {N : Nat} {L : SL} {w0 : World} {M : List Nat} {H : List Ch} {o : Oper} {K : Act → World → Prop} {d : Nat} {c : Nat} {a : Option Addr} {cd : List UInt8} {xs : List Operand} {ts : Array TypeId}
    (ho : o.op = .call { callee := .value (.func 21), args := xs.toArray, argTypes := ts }) (hx : evs L xs = some [.slice a cd.length c]) (hb : ∀ w, Hp w0 M H w → bytesL.rd w [] [.slice a cd.length c] cd) (hd : o.dst = some d) (hN : Nat.blt d N = true)
    (h : ∀ r, KK K N ((d, .pointer (some ⟨r, 0, none⟩)) :: L) w0 M (blkC r 63 [.slice a (cd.take 2000).length c, .int .i64 ((0 : Nat) : Int)] :: H)) : OW Tryd.prog o Q K N L w0 M H := by
  refine ow_cN (ι := Nat) (V := fun x => .pointer (some ⟨x, 0, none⟩)) (C := fun x => blkC x 63 [.slice a (cd.take 2000).length c, .int .i64 ((0 : Nat) : Int)]) (I := fun _ => True) ho hb21 hx (fun w hw => ?_) hd hN (fun x _ => h x)
  refine Ret.mono (c_spec_l6Open cd w (hb w hw)) ?_
  rintro v w' _ ⟨x, hv, hn⟩
  exact ⟨x, trivial, hv, hn⟩
theorem take_fact {w0 : World} {M : List Nat} {a : Option Addr} {c : Nat} {cd : List UInt8} (h : bytesL.rd w0 M [.slice a cd.length c] cd) (k : Nat) : bytesL.rd w0 M [.slice a (cd.take k).length c] (cd.take k) := by
  rcases Nat.lt_or_ge k cd.length with hl | hl
  · have := sl_take h (k := k) (by omega)
    rw [show (cd.take k).length = k by rw [List.length_take]; omega]
    exact this
  · rw [List.take_of_length_le hl]; exact h

end Go.Proofs.YtacecnffggffmaaDoor
