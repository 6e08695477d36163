/- Mirrors and contracts, printed by a program: what each function computes as a plain term, and that it does. -/
import Derived.Test.YtmnhnldnnniglaaR
import Derived.Test.YtmnhnldnnniglaaK
import Derived.Test.YtmnhnldnnniglaaM
import Derived.Test.YtmnhnldnnniglaaWG0
set_option linter.all false
set_option maxRecDepth 100000
namespace Go.Proofs.Ytmnhnldnnniglaa
open Go.RowKit

def m_spec_l12Without_L16 (N : Nat) (u1 : Str) (x29 : Step) : Nat → (List Str) → Nat → Option (Ex (List Str × Nat) (List Step))
  | 0, _, _ => none
  | n + 1, s9, s10 => (bif ltb ((s10 : Nat) : Int) ((x29.after.length : Nat) : Int) then (x29.after[s10]?).bind fun y46 => (bif !(seq y46 u1) then (m_spec_l1Put N s9 y46).bind fun x56 => m_spec_l12Without_L16 N u1 x29 n x56 (s10 + 1)
 else m_spec_l12Without_L16 N u1 x29 n s9 (s10 + 1))
 else some (Ex.brk (s9, s10)))

def m_spec_l12Without_L23 (N : Nat) (y17 : Step) : Nat → (List Str) → Nat → Option (Ex (List Str × Nat) (List Step))
  | 0, _, _ => none
  | n + 1, s9, s11 => (bif ltb ((s11 : Nat) : Int) ((y17.after.length : Nat) : Int) then (y17.after[s11]?).bind fun y68 => (m_spec_l1Put N s9 y68).bind fun x70 => m_spec_l12Without_L23 N y17 n x70 (s11 + 1)
 else some (Ex.brk (s9, s11)))

def m_spec_l12Without_L6 (N : Nat) (u0 : List Step) (u1 : Str) (y17 : Step) : Nat → (List Step) → Nat → Option (Ex (List Step × Nat) (List Step))
  | 0, _, _ => none
  | n + 1, s5, s7 => (bif ltb ((s7 : Nat) : Int) ((u0.length : Nat) : Int) then (u0[s7]?).bind fun y27 => (m_spec_l2Step N y27).bind fun x29 => (m_spec_l1At N x29.after u1).bind fun x33 => (bif leb 0 x33 then (m_spec_l12Without_L16 N u1 x29 N ([] : List Str) 0).bind fun e16 => e16.go Ex.ret fun b16 => (m_spec_l12Without_L23 N y17 N b16.1 0).bind fun e23 => e23.go Ex.ret fun b23 => (bif !(seq x29.name u1) then (appd s5 [(Step.mk x29.name b23.1 x29.undo)]).bind fun l80 => m_spec_l12Without_L6 N u0 u1 y17 n (s5 ++ [(Step.mk x29.name b23.1 x29.undo)]) (s7 + 1)
 else m_spec_l12Without_L6 N u0 u1 y17 n s5 (s7 + 1))
 else (bif !(seq x29.name u1) then (appd s5 [x29]).bind fun l80 => m_spec_l12Without_L6 N u0 u1 y17 n (s5 ++ [x29]) (s7 + 1)
 else m_spec_l12Without_L6 N u0 u1 y17 n s5 (s7 + 1)))
 else some (Ex.brk (s5, s7)))

def m_spec_l12Without (N : Nat) (u0 : List Step) (u1 : Str) : Option (List Step) := (m_spec_l2At N u0 u1).bind fun x16 => (geti u0 x16).bind fun y17 => (m_spec_l12Without_L6 N u0 u1 y17 N ([] : List Step) 0).bind fun e6 => e6.go (fun r => r) fun b6 => some b6.1

set_option maxHeartbeats 4000000 in
theorem c_spec_l12Without (N : Nat) (u0 : List Step) (u1 : Str) (res : List Step) (h : m_spec_l12Without N u0 u1 = some res) (w : World) {a_u0 : Option Addr} {c_u0 : Nat} (h_u0 : stepsL.rd w [] [.slice a_u0 u0.length c_u0] u0) : Ret Try.prog 80 [.slice a_u0 u0.length c_u0, .string u1] w [] fun v w' => ∃ a1 c1 F1, v = .slice a1 res.length c1 ∧ NewC w w' [owC stepsL F1 [.slice a1 res.length c1] res] := by
  have mh_u0 := rd_max h_u0
  unfold m_spec_l12Without at h
  refine ret_enter Try.func80 rfl Try.ntmps80 rfl (Hp.refl w _) ?_
  refine cw_seq ?_
  refine cw_region ?_
  refine wl_u rfl (ow_y (yh_assign rfl rfl) rfl rfl (kk_wl ?_))
  refine wl_nil ?_
  refine ex_seq ?_
  refine cw_seq ?_
  refine cw_region ?_
  refine wl_u rfl (ow_lit0 Tb rfl rfl rfl rfl rfl rfl (fun g12 => kk_chg (c' := owC stepsL [g12] [.slice (some ⟨g12, 0, none⟩) 0 0] ([] : List Step)) 0 rfl (fun w hA => own_stepsL ([] : List Step) hA rfl (by simp [maxLen])) rfl (kk_wl ?_)))
  refine wl_u rfl (ow_y (yh_assign rfl rfl) rfl rfl (kk_wl ?_))
  refine wl_nil ?_
  refine ex_seq ?_
  refine cw_seq ?_
  refine cw_region ?_
  refine wl_u rfl (ow_y (yh_move rfl rfl) rfl rfl (kk_wl ?_))
  refine wl_u rfl (ow_y (yh_move rfl rfl) rfl rfl (kk_wl ?_))
  refine wl_u rfl (ow_y (yh_move rfl rfl) rfl rfl (kk_wl ?_))
  obtain ⟨x16, hx16, h⟩ := bd h
  refine wl_u rfl (ow_cV rfl hb74 rfl (fun w hw => c_spec_l2At N _ _ _ hx16 w (Lay.at_ h_u0 hw)) rfl rfl (kk_wl ?_))
  obtain ⟨y17, zy17, h⟩ := bd h
  obtain ⟨iy17, hy17⟩ := geti_some zy17
  obtain ⟨b17, o17, ha17⟩ := sl_addr h_u0 hy17
  subst ha17
  obtain ⟨a17, e17, hc17, hf17⟩ := get_step h_u0 hy17
  have mx17 := rd_max hf17
  refine wl_u rfl (ow_y (yh_idx Tb (k := x16.toNat) rfl rfl rfl iy17 (get_lt hy17) rfl rfl) rfl rfl (kk_wl ?_))
  refine wl_u rfl (ow_y (yh_loadAN Tb rfl rfl rfl rfl hc17 rfl) rfl rfl (kk_wl ?_))
  refine wl_u rfl (ow_allocA Tb rfl rfl rfl rfl (fun g6 => kk_wl ?_))
  refine wl_u rfl (ow_storeA Tb (k := 0) rfl rfl rfl rfl rfl rfl rfl rfl rfl (kk_wl ?_))
  refine wl_nil ?_
  refine ex_seq ?_
  refine cw_seq ?_
  refine cw_seq ?_
  refine cw_region ?_
  refine wl_u rfl (ow_y (yh_assign rfl rfl) rfl rfl (kk_wl ?_))
  refine wl_nil ?_
  refine ex_seq ?_
  refine cw_block ?_
  obtain ⟨e6, he6, hk6⟩ := bd h
  clear h
  refine cw_loopG (σ := Nat × (List Step) × Nat × (Option Addr) × Nat × (List Nat)) (fun s => m_spec_l12Without_L6 N u0 u1 y17 s.1 s.2.1 s.2.2.1 = some e6) (fun s => [(0, .slice (some ⟨b17, o17, none⟩) u0.length c_u0), (1, .string u1), (5, .slice s.2.2.2.1 s.2.1.length s.2.2.2.2.1), (6, .pointer (some ⟨g6, 0, none⟩)), (7, .int .i64 ((s.2.2.1 : Nat) : Int))]) (fun s => [owC stepsL s.2.2.2.2.2 [.slice s.2.2.2.1 s.2.1.length s.2.2.2.2.1] s.2.1, blkC g6 28 [.string y17.name, .slice a17 y17.after.length e17, .bool y17.undo]]) (fun s => s.1) (N, ([] : List Step), 0, (some ⟨g12, 0, none⟩), 0, [g12]) [1, 0] he6 ⟨rfl, rfl, rfl, rfl, rfl, trivial⟩ rfl (fun KL s he6 hn6 => ?_)
  obtain ⟨n6, s5, s7, as5, cs5, Fs5⟩ := s
  simp only at he6 hn6 ⊢
  rcases n6 with _ | n6
  · exact nosome he6
  have h := he6; rw [m_spec_l12Without_L6] at h
  refine cw_seq ?_
  refine cw_seq ?_
  refine cw_region ?_
  refine wl_u rfl (ow_y (yh_move rfl rfl) rfl rfl (kk_wl ?_))
  refine wl_u rfl (ow_y (yh_move rfl rfl) rfl rfl (kk_wl ?_))
  refine wl_u rfl (ow_y (yh_lenS Tb rfl rfl rfl rfl) rfl rfl (kk_wl ?_))
  refine wl_u rfl (ow_y (yh_cmpI rfl rfl rfl rfl) rfl rfl (kk_wl ?_))
  refine wl_nil ?_
  refine ex_seq ?_
  refine cw_split rfl (fun cc1 => ?_) (fun cc1 => ?_)
  · skip
    replace h := bt cc1 h
    have q1 := ltb_true.1 cc1
    refine cw_skip ?_
    refine ex_seq ?_
    refine cw_seq ?_
    refine cw_block ?_
    refine cw_seq ?_
    refine cw_region ?_
    refine wl_u rfl (ow_y (yh_move rfl rfl) rfl rfl (kk_wl ?_))
    refine wl_u rfl (ow_y (yh_move rfl rfl) rfl rfl (kk_wl ?_))
    obtain ⟨y27, hy27, h⟩ := bd h
    obtain ⟨a27, e27, hc27, hf27⟩ := get_step h_u0 hy27
    have mx27 := rd_max hf27
    refine wl_u rfl (ow_y (yh_idx Tb (k := s7) rfl rfl rfl rfl (get_lt hy27) rfl rfl) rfl rfl (kk_wl ?_))
    refine wl_u rfl (ow_y (yh_loadAN Tb rfl rfl rfl rfl hc27 rfl) rfl rfl (kk_wl ?_))
    obtain ⟨x29, hx29, h⟩ := bd h
    refine wl_u rfl (ow_cN1 rfl hb84 rfl (fun w hw => c_spec_l2Step N _ _ hx29 w (Lay.at_ hf27 hw)) rfl rfl (fun a29 c29 F29 => kk_wl ?_))
    refine wl_u rfl (ow_allocA Tb rfl rfl rfl rfl (fun g8 => kk_wl ?_))
    refine wl_u rfl (ow_storeA Tb (k := 0) rfl rfl rfl rfl rfl rfl rfl rfl rfl (kk_wl ?_))
    refine wl_nil ?_
    refine ex_seq ?_
    refine cw_seq ?_
    refine cw_seq ?_
    refine cw_region ?_
    refine wl_u rfl (ow_y (yh_field Tb rfl rfl rfl) rfl rfl (kk_wl ?_))
    refine wl_u rfl (ow_y (yh_loadB Tb (k := 0) rfl rfl rfl rfl rfl) rfl rfl (kk_wl ?_))
    refine wl_u rfl (ow_y (yh_move rfl rfl) rfl rfl (kk_wl ?_))
    obtain ⟨x33, hx33, h⟩ := bd h
    refine wl_u rfl (ow_cV rfl hb78 rfl (fun w hw => c_spec_l1At N _ _ _ hx33 w (rdo (A := strsL) 1 rfl hw)) rfl rfl (kk_wl ?_))
    refine wl_u rfl (ow_y (yh_cmpI rfl rfl rfl rfl) rfl rfl (kk_wl ?_))
    refine wl_nil ?_
    refine ex_seq ?_
    refine cw_split rfl (fun cc2 => ?_) (fun cc2 => ?_)
    · skip
      replace h := bt cc2 h
      have q2 := leb_true.1 cc2
      refine cw_seq ?_
      refine cw_region ?_
      refine wl_u rfl (ow_lit0 Tb rfl rfl rfl rfl rfl rfl (fun g35 => kk_chg (c' := owC strsL [g35] [.slice (some ⟨g35, 0, none⟩) 0 0] ([] : List Str)) 0 rfl (fun w hA => own_strsL ([] : List Str) hA rfl (by simp [maxLen])) rfl (kk_wl ?_)))
      refine wl_u rfl (ow_y (yh_assign rfl rfl) rfl rfl (kk_wl ?_))
      refine wl_nil ?_
      refine ex_seq ?_
      refine cw_seq ?_
      refine cw_seq ?_
      refine cw_region ?_
      refine wl_u rfl (ow_y (yh_assign rfl rfl) rfl rfl (kk_wl ?_))
      refine wl_nil ?_
      refine ex_seq ?_
      refine cw_block ?_
      obtain ⟨e16, he16, hk16⟩ := bd h
      clear h
      refine cw_loopG (σ := Nat × (List Str) × Nat × (Option Addr) × Nat × (List Nat)) (fun s => m_spec_l12Without_L16 N u1 x29 s.1 s.2.1 s.2.2.1 = some e16) (fun s => [(0, .slice (some ⟨b17, o17, none⟩) u0.length c_u0), (1, .string u1), (5, .slice as5 s5.length cs5), (6, .pointer (some ⟨g6, 0, none⟩)), (7, .int .i64 ((s7 : Nat) : Int)), (8, .pointer (some ⟨g8, 0, none⟩)), (9, .slice s.2.2.2.1 s.2.1.length s.2.2.2.2.1), (10, .int .i64 ((s.2.2.1 : Nat) : Int))]) (fun s => [owC stepsL Fs5 [.slice as5 s5.length cs5] s5, blkC g6 28 [.string y17.name, .slice a17 y17.after.length e17, .bool y17.undo], blkC g8 28 [.string x29.name, .slice a29 x29.after.length c29, .bool x29.undo], owC strsL F29 [.slice a29 x29.after.length c29] x29.after, owC strsL s.2.2.2.2.2 [.slice s.2.2.2.1 s.2.1.length s.2.2.2.2.1] s.2.1]) (fun s => s.1) (N, ([] : List Str), 0, (some ⟨g35, 0, none⟩), 0, [g35]) [3, 4, 1, 2, 0] he16 ⟨rfl, rfl, rfl, rfl, rfl, rfl, rfl, rfl, trivial⟩ rfl (fun KL s he16 hn16 => ?_)
      obtain ⟨n16, s9, s10, as9, cs9, Fs9⟩ := s
      simp only at he16 hn16 ⊢
      rcases n16 with _ | n16
      · exact nosome he16
      have h := he16; rw [m_spec_l12Without_L16] at h
      refine cw_seq ?_
      refine cw_seq ?_
      refine cw_region ?_
      refine wl_u rfl (ow_y (yh_move rfl rfl) rfl rfl (kk_wl ?_))
      refine wl_u rfl (ow_y (yh_field Tb rfl rfl rfl) rfl rfl (kk_wl ?_))
      refine wl_u rfl (ow_y (yh_loadB Tb (k := 2) rfl rfl rfl rfl rfl) rfl rfl (kk_wl ?_))
      refine wl_know (x29.after.length ≤ 9223372036854775807) (fun w hw => own_max 3 rfl hw) (fun mo39 => ?_)
      refine wl_u rfl (ow_y (yh_lenS Tb rfl rfl rfl rfl) rfl rfl (kk_wl ?_))
      refine wl_u rfl (ow_y (yh_cmpI rfl rfl rfl rfl) rfl rfl (kk_wl ?_))
      refine wl_nil ?_
      refine ex_seq ?_
      refine cw_split rfl (fun cc3 => ?_) (fun cc3 => ?_)
      · skip
        replace h := bt cc3 h
        have q3 := ltb_true.1 cc3
        refine cw_skip ?_
        refine ex_seq ?_
        refine cw_seq ?_
        refine cw_block ?_
        refine cw_seq ?_
        refine cw_region ?_
        refine wl_u rfl (ow_y (yh_field Tb rfl rfl rfl) rfl rfl (kk_wl ?_))
        refine wl_u rfl (ow_y (yh_loadB Tb (k := 2) rfl rfl rfl rfl rfl) rfl rfl (kk_wl ?_))
        refine wl_u rfl (ow_y (yh_move rfl rfl) rfl rfl (kk_wl ?_))
        obtain ⟨y46, hy46, h⟩ := bd h
        refine wl_ex (fun g => a29 = some ⟨g, 0, none⟩) (fun w hw => by exact own_addrK 3 rfl hy46 hw) (fun g46 hg46 => ?_)
        subst hg46
        refine wl_u rfl (ow_y (yh_idx Tb (k := s10) rfl rfl rfl rfl (get_lt hy46) rfl rfl) rfl rfl (kk_wl ?_))
        refine wl_u rfl (ow_y (yh_loadO0 Tb 3 rfl rfl rfl rfl rfl hy46 rfl) rfl rfl (kk_wl ?_))
        refine wl_u rfl (ow_y (yh_move rfl rfl) rfl rfl (kk_wl ?_))
        refine wl_u rfl (ow_y (yh_cmpS rfl rfl rfl rfl) rfl rfl (kk_wl ?_))
        refine wl_nil ?_
        refine ex_seq ?_
        refine cw_split rfl (fun cc4 => ?_) (fun cc4 => ?_)
        · skip
          replace h := bt cc4 h
          refine cw_region ?_
          refine wl_u rfl (ow_y (yh_move rfl rfl) rfl rfl (kk_wl ?_))
          refine wl_u rfl (ow_y (yh_field Tb rfl rfl rfl) rfl rfl (kk_wl ?_))
          refine wl_u rfl (ow_y (yh_loadB Tb (k := 2) rfl rfl rfl rfl rfl) rfl rfl (kk_wl ?_))
          refine wl_u rfl (ow_y (yh_move rfl rfl) rfl rfl (kk_wl ?_))
          refine wl_u rfl (ow_y (yh_idx Tb (k := s10) rfl rfl rfl rfl (get_lt hy46) rfl rfl) rfl rfl (kk_wl ?_))
          refine wl_u rfl (ow_y (yh_loadO0 Tb 3 rfl rfl rfl rfl rfl hy46 rfl) rfl rfl (kk_wl ?_))
          obtain ⟨x56, hx56, h⟩ := bd h
          refine wl_u rfl (ow_cN1 rfl hb101 rfl (fun w hw => c_spec_l1Put N _ _ _ hx56 w (rdo (A := strsL) 4 rfl hw)) rfl rfl (fun a56 c56 F56 => kk_wl ?_))
          refine wl_u rfl (ow_y (yh_assign rfl rfl) rfl rfl (kk_wl ?_))
          refine wl_nil ?_
          refine ex_block_normal ?_
          refine ex_seq ?_
          refine cw_region ?_
          refine wl_u rfl (ow_y (yh_move rfl rfl) rfl rfl (kk_wl ?_))
          refine wl_u rfl (ow_y (yh_arI rfl rfl rfl rfl (by omega)) rfl rfl (kk_wl ?_))
          refine wl_u rfl (ow_y (yh_assign rfl rfl) rfl rfl (kk_wl ?_))
          refine wl_nil ?_
          exact ex_next [1, 2, 3, 4, 0] (hn16 (n16, x56, s10 + 1, a56, c56, F56) (Nat.lt_succ_self _) h) ⟨rfl, rfl, rfl, rfl, rfl, rfl, rfl, rfl, trivial⟩ (by kernel_rfl)
        · skip
          replace h := bf cc4 h
          refine cw_skip ?_
          refine ex_block_normal ?_
          refine ex_seq ?_
          refine cw_region ?_
          refine wl_u rfl (ow_y (yh_move rfl rfl) rfl rfl (kk_wl ?_))
          refine wl_u rfl (ow_y (yh_arI rfl rfl rfl rfl (by omega)) rfl rfl (kk_wl ?_))
          refine wl_u rfl (ow_y (yh_assign rfl rfl) rfl rfl (kk_wl ?_))
          refine wl_nil ?_
          exact ex_next [0, 1, 2, 3, 4] (hn16 (n16, s9, s10 + 1, as9, cs9, Fs9) (Nat.lt_succ_self _) h) ⟨rfl, rfl, rfl, rfl, rfl, rfl, rfl, rfl, trivial⟩ (by kernel_rfl)
      · skip
        replace h := bf cc3 h
        have q4 := ltb_false.1 cc3
        refine cw_exit ?_
        refine ex_then_exit ?_
        refine ex_then_exit ?_
        obtain rfl := Option.some.inj h
        have h := go_brk hk16
        refine ex_block_exit ?_
        refine ex_seq ?_
        refine cw_seq ?_
        refine cw_seq ?_
        refine cw_region ?_
        refine wl_u rfl (ow_y (yh_assign rfl rfl) rfl rfl (kk_wl ?_))
        refine wl_nil ?_
        refine ex_seq ?_
        refine cw_block ?_
        obtain ⟨e23, he23, hk23⟩ := bd h
        clear h
        refine cw_loopG (σ := Nat × (List Str) × Nat × (Option Addr) × Nat × (List Nat)) (fun s => m_spec_l12Without_L23 N y17 s.1 s.2.1 s.2.2.1 = some e23) (fun s => [(0, .slice (some ⟨b17, o17, none⟩) u0.length c_u0), (1, .string u1), (5, .slice as5 s5.length cs5), (6, .pointer (some ⟨g6, 0, none⟩)), (7, .int .i64 ((s7 : Nat) : Int)), (8, .pointer (some ⟨g8, 0, none⟩)), (9, .slice s.2.2.2.1 s.2.1.length s.2.2.2.2.1), (11, .int .i64 ((s.2.2.1 : Nat) : Int))]) (fun s => [owC stepsL Fs5 [.slice as5 s5.length cs5] s5, blkC g6 28 [.string y17.name, .slice a17 y17.after.length e17, .bool y17.undo], blkC g8 28 [.string x29.name, .slice a29 x29.after.length c29, .bool x29.undo], owC strsL F29 [.slice a29 x29.after.length c29] x29.after, owC strsL s.2.2.2.2.2 [.slice s.2.2.2.1 s.2.1.length s.2.2.2.2.1] s.2.1]) (fun s => s.1) (N, s9, 0, as9, cs9, Fs9) [0, 1, 2, 3, 4] he23 ⟨rfl, rfl, rfl, rfl, rfl, rfl, rfl, rfl, trivial⟩ rfl (fun KL s he23 hn23 => ?_)
        obtain ⟨n23, s9, s11, as9, cs9, Fs9⟩ := s
        simp only at he23 hn23 ⊢
        rcases n23 with _ | n23
        · exact nosome he23
        have h := he23; rw [m_spec_l12Without_L23] at h
        refine cw_seq ?_
        refine cw_seq ?_
        refine cw_region ?_
        refine wl_u rfl (ow_y (yh_move rfl rfl) rfl rfl (kk_wl ?_))
        refine wl_u rfl (ow_y (yh_field Tb rfl rfl rfl) rfl rfl (kk_wl ?_))
        refine wl_u rfl (ow_y (yh_loadB Tb (k := 1) rfl rfl rfl rfl rfl) rfl rfl (kk_wl ?_))
        refine wl_u rfl (ow_y (yh_lenS Tb rfl rfl rfl rfl) rfl rfl (kk_wl ?_))
        refine wl_u rfl (ow_y (yh_cmpI rfl rfl rfl rfl) rfl rfl (kk_wl ?_))
        refine wl_nil ?_
        refine ex_seq ?_
        refine cw_split rfl (fun cc5 => ?_) (fun cc5 => ?_)
        · skip
          replace h := bt cc5 h
          have q5 := ltb_true.1 cc5
          refine cw_skip ?_
          refine ex_seq ?_
          refine cw_seq ?_
          refine cw_block ?_
          refine cw_region ?_
          refine wl_u rfl (ow_y (yh_move rfl rfl) rfl rfl (kk_wl ?_))
          refine wl_u rfl (ow_y (yh_field Tb rfl rfl rfl) rfl rfl (kk_wl ?_))
          refine wl_u rfl (ow_y (yh_loadB Tb (k := 1) rfl rfl rfl rfl rfl) rfl rfl (kk_wl ?_))
          refine wl_u rfl (ow_y (yh_move rfl rfl) rfl rfl (kk_wl ?_))
          obtain ⟨y68, hy68, h⟩ := bd h
          obtain ⟨b68, o68, ha68⟩ := sl_addr hf17 hy68
          subst ha68
          have hc68 := get_str hf17 hy68
          refine wl_u rfl (ow_y (yh_idx Tb (k := s11) rfl rfl rfl rfl (get_lt hy68) rfl rfl) rfl rfl (kk_wl ?_))
          refine wl_u rfl (ow_y (yh_loadA0 Tb rfl rfl rfl hc68 rfl) rfl rfl (kk_wl ?_))
          obtain ⟨x70, hx70, h⟩ := bd h
          refine wl_u rfl (ow_cN1 rfl hb101 rfl (fun w hw => c_spec_l1Put N _ _ _ hx70 w (rdo (A := strsL) 4 rfl hw)) rfl rfl (fun a70 c70 F70 => kk_wl ?_))
          refine wl_u rfl (ow_y (yh_assign rfl rfl) rfl rfl (kk_wl ?_))
          refine wl_nil ?_
          refine ex_block_normal ?_
          refine ex_seq ?_
          refine cw_region ?_
          refine wl_u rfl (ow_y (yh_move rfl rfl) rfl rfl (kk_wl ?_))
          refine wl_u rfl (ow_y (yh_arI rfl rfl rfl rfl (by omega)) rfl rfl (kk_wl ?_))
          refine wl_u rfl (ow_y (yh_assign rfl rfl) rfl rfl (kk_wl ?_))
          refine wl_nil ?_
          exact ex_next [1, 2, 3, 4, 0] (hn23 (n23, x70, s11 + 1, a70, c70, F70) (Nat.lt_succ_self _) h) ⟨rfl, rfl, rfl, rfl, rfl, rfl, rfl, rfl, trivial⟩ (by kernel_rfl)
        · skip
          replace h := bf cc5 h
          have q6 := ltb_false.1 cc5
          refine cw_exit ?_
          refine ex_then_exit ?_
          refine ex_then_exit ?_
          obtain rfl := Option.some.inj h
          have h := go_brk hk23
          refine ex_block_exit ?_
          refine ex_seq ?_
          refine cw_region ?_
          refine wl_u rfl (ow_y (yh_move rfl rfl) rfl rfl (kk_wl ?_))
          refine wl_u rfl (ow_y (yh_field Tb rfl rfl rfl) rfl rfl (kk_wl ?_))
          refine wl_u rfl (ow_store1 Tb (k := 2) rfl rfl rfl rfl rfl rfl rfl rfl rfl (kk_wl ?_))
          refine wl_nil ?_
          refine ex_seq ?_
          refine cw_seq ?_
          refine cw_region ?_
          refine wl_u rfl (ow_y (yh_field Tb rfl rfl rfl) rfl rfl (kk_wl ?_))
          refine wl_u rfl (ow_y (yh_loadB Tb (k := 0) rfl rfl rfl rfl rfl) rfl rfl (kk_wl ?_))
          refine wl_u rfl (ow_y (yh_move rfl rfl) rfl rfl (kk_wl ?_))
          refine wl_u rfl (ow_y (yh_cmpS rfl rfl rfl rfl) rfl rfl (kk_wl ?_))
          refine wl_nil ?_
          refine ex_seq ?_
          refine cw_split rfl (fun cc6 => ?_) (fun cc6 => ?_)
          · skip
            replace h := bt cc6 h
            refine cw_region ?_
            refine wl_u rfl (ow_y (yh_move rfl rfl) rfl rfl (kk_wl ?_))
            refine wl_u rfl (ow_y (yh_loadBA Tb (k := 0) rfl rfl rfl rfl rfl rfl) rfl rfl (kk_wl ?_))
            refine wl_u rfl (ow_litA Tb rfl rfl rfl rfl rfl rfl (by decide) rfl rfl (fun g79 => kk_wl ?_))
            obtain ⟨hll80, h⟩ := bd_appd h
            refine wl_u rfl (ow_chg (c' := owC stepL Fs9 [.string x29.name, .slice as9 s9.length cs9, .bool x29.undo] (Step.mk x29.name s9 x29.undo)) 5 rfl (fun w hA => stepL_mk (Step.mk x29.name s9 x29.undo) hA) rfl (ow_appE Tb (i := 3) (j := 0) (k := 1) rfl rfl rfl rfl rfl rfl rfl rfl rfl rfl rfl (app1 hll80) (by decide) rfl rfl (fun a80 c80 F80 => kk_wl ?_)))
            refine wl_u rfl (ow_y (yh_assign rfl rfl) rfl rfl (kk_wl ?_))
            refine wl_nil ?_
            refine ex_block_normal ?_
            refine ex_seq ?_
            refine cw_region ?_
            refine wl_u rfl (ow_y (yh_move rfl rfl) rfl rfl (kk_wl ?_))
            refine wl_u rfl (ow_y (yh_arI rfl rfl rfl rfl (by omega)) rfl rfl (kk_wl ?_))
            refine wl_u rfl (ow_y (yh_assign rfl rfl) rfl rfl (kk_wl ?_))
            refine wl_nil ?_
            exact ex_next [0, 3] (hn6 (n6, (s5 ++ [(Step.mk x29.name s9 x29.undo)]), s7 + 1, a80, c80, F80) (Nat.lt_succ_self _) h) ⟨rfl, rfl, rfl, rfl, rfl, trivial⟩ (by kernel_rfl)
          · skip
            replace h := bf cc6 h
            refine cw_skip ?_
            refine ex_block_normal ?_
            refine ex_seq ?_
            refine cw_region ?_
            refine wl_u rfl (ow_y (yh_move rfl rfl) rfl rfl (kk_wl ?_))
            refine wl_u rfl (ow_y (yh_arI rfl rfl rfl rfl (by omega)) rfl rfl (kk_wl ?_))
            refine wl_u rfl (ow_y (yh_assign rfl rfl) rfl rfl (kk_wl ?_))
            refine wl_nil ?_
            exact ex_next [1, 2] (hn6 (n6, s5, s7 + 1, as5, cs5, Fs5) (Nat.lt_succ_self _) h) ⟨rfl, rfl, rfl, rfl, rfl, trivial⟩ (by kernel_rfl)
    · skip
      replace h := bf cc2 h
      have q7 := leb_false.1 cc2
      refine cw_skip ?_
      refine ex_seq ?_
      refine cw_seq ?_
      refine cw_region ?_
      refine wl_u rfl (ow_y (yh_field Tb rfl rfl rfl) rfl rfl (kk_wl ?_))
      refine wl_u rfl (ow_y (yh_loadB Tb (k := 0) rfl rfl rfl rfl rfl) rfl rfl (kk_wl ?_))
      refine wl_u rfl (ow_y (yh_move rfl rfl) rfl rfl (kk_wl ?_))
      refine wl_u rfl (ow_y (yh_cmpS rfl rfl rfl rfl) rfl rfl (kk_wl ?_))
      refine wl_nil ?_
      refine ex_seq ?_
      refine cw_split rfl (fun cc7 => ?_) (fun cc7 => ?_)
      · skip
        replace h := bt cc7 h
        refine cw_region ?_
        refine wl_u rfl (ow_y (yh_move rfl rfl) rfl rfl (kk_wl ?_))
        refine wl_u rfl (ow_y (yh_loadBA Tb (k := 0) rfl rfl rfl rfl rfl rfl) rfl rfl (kk_wl ?_))
        refine wl_u rfl (ow_litA Tb rfl rfl rfl rfl rfl rfl (by decide) rfl rfl (fun g79 => kk_wl ?_))
        obtain ⟨hll80, h⟩ := bd_appd h
        refine wl_u rfl (ow_chg (c' := owC stepL F29 [.string x29.name, .slice a29 x29.after.length c29, .bool x29.undo] x29) 2 rfl (fun w hA => stepL_mk x29 hA) rfl (ow_appE Tb (i := 3) (j := 0) (k := 1) rfl rfl rfl rfl rfl rfl rfl rfl rfl rfl rfl (app1 hll80) (by decide) rfl rfl (fun a80 c80 F80 => kk_wl ?_)))
        refine wl_u rfl (ow_y (yh_assign rfl rfl) rfl rfl (kk_wl ?_))
        refine wl_nil ?_
        refine ex_block_normal ?_
        refine ex_seq ?_
        refine cw_region ?_
        refine wl_u rfl (ow_y (yh_move rfl rfl) rfl rfl (kk_wl ?_))
        refine wl_u rfl (ow_y (yh_arI rfl rfl rfl rfl (by omega)) rfl rfl (kk_wl ?_))
        refine wl_u rfl (ow_y (yh_assign rfl rfl) rfl rfl (kk_wl ?_))
        refine wl_nil ?_
        exact ex_next [0, 3] (hn6 (n6, (s5 ++ [x29]), s7 + 1, a80, c80, F80) (Nat.lt_succ_self _) h) ⟨rfl, rfl, rfl, rfl, rfl, trivial⟩ (by kernel_rfl)
      · skip
        replace h := bf cc7 h
        refine cw_skip ?_
        refine ex_block_normal ?_
        refine ex_seq ?_
        refine cw_region ?_
        refine wl_u rfl (ow_y (yh_move rfl rfl) rfl rfl (kk_wl ?_))
        refine wl_u rfl (ow_y (yh_arI rfl rfl rfl rfl (by omega)) rfl rfl (kk_wl ?_))
        refine wl_u rfl (ow_y (yh_assign rfl rfl) rfl rfl (kk_wl ?_))
        refine wl_nil ?_
        exact ex_next [2, 3] (hn6 (n6, s5, s7 + 1, as5, cs5, Fs5) (Nat.lt_succ_self _) h) ⟨rfl, rfl, rfl, rfl, rfl, trivial⟩ (by kernel_rfl)
  · skip
    replace h := bf cc1 h
    have q8 := ltb_false.1 cc1
    refine cw_exit ?_
    refine ex_then_exit ?_
    refine ex_then_exit ?_
    obtain rfl := Option.some.inj h
    have h := go_brk hk6
    refine ex_block_exit ?_
    refine ex_seq ?_
    refine cw_seq ?_
    refine cw_region ?_
    refine wl_u rfl (ow_y (yh_move rfl rfl) rfl rfl (kk_wl ?_))
    refine wl_u rfl (ow_y (yh_assign rfl rfl) rfl rfl (kk_wl ?_))
    refine wl_nil ?_
    refine ex_seq ?_
    refine cw_ret ?_
    obtain rfl := Option.some.inj h
    exact ex_r1 Tb rfl (.tmp rfl) (fun wq hq => ⟨_, rfl, hq.ext, ⟨as5, cs5, Fs5, rfl, NewC.sel [0] hq rfl⟩⟩)

def m_spec_l12Steps (N : Nat) (u0 : List Step) (u1 : Change) : Option (List Step × Bool) := (m_spec_l2At N u0 u1.step.name).bind fun x11 => ((bif eqb u1.kind 1 then some (ltb x11 0)
 else some false) : Option (Bool)).bind fun j104 => (bif j104 then (m_spec_l12With N u0 u1.step).bind fun x23 => some (x23, true)
 else ((bif eqb u1.kind 2 then some (leb 0 x11)
 else some false) : Option (Bool)).bind fun j106 => (bif j106 then (m_spec_l12Without N u0 u1.step.name).bind fun x36 => some (x36, true)
 else ((bif eqb u1.kind 3 then some (leb 0 x11)
 else some false) : Option (Bool)).bind fun j108 => (bif j108 then (geti u0 x11).bind fun y54 => (m_spec_l12With N u0 (Step.mk u1.step.name u1.step.after y54.undo)).bind fun x58 => some (x58, true)
 else ((bif eqb u1.kind 4 then some (leb 0 x11)
 else some false) : Option (Bool)).bind fun j111 => (bif j111 then (geti u0 x11).bind fun y73 => (m_spec_l12With N u0 (Step.mk u1.step.name y73.after u1.step.undo)).bind fun x80 => some (x80, true)
 else some (([] : List Step), false)))))

set_option maxHeartbeats 4000000 in
theorem c_spec_l12Steps (N : Nat) (u0 : List Step) (u1 : Change) (res : List Step × Bool) (h : m_spec_l12Steps N u0 u1 = some res) (w : World) {a_u0 a_u1_step_after : Option Addr} {c_u0 c_u1_step_after : Nat} (h_u0 : stepsL.rd w [] [.slice a_u0 u0.length c_u0] u0) (h_u1_step_after : strsL.rd w [] [.slice a_u1_step_after u1.step.after.length c_u1_step_after] u1.step.after) : Ret Try.prog 40 [.slice a_u0 u0.length c_u0, .agg #[.int .i64 u1.kind, .string u1.step.name, .slice a_u1_step_after u1.step.after.length c_u1_step_after, .bool u1.step.undo]] w [] fun v w' => ∃ a1 c1 F1, v = .tuple #[.slice a1 res.1.length c1, .bool res.2] ∧ NewC w w' [owC stepsL F1 [.slice a1 res.1.length c1] res.1] := by
  have mh_u0 := rd_max h_u0
  have mh_u1_step_after := rd_max h_u1_step_after
  unfold m_spec_l12Steps at h
  refine ret_enter Try.func40 rfl Try.ntmps40 rfl (Hp.refl w _) ?_
  refine cw_seq ?_
  refine cw_region ?_
  refine wl_u rfl (ow_boxA rfl rfl rfl rfl (fun g3 => kk_wl ?_))
  refine wl_u rfl (ow_y (yh_assign rfl rfl) rfl rfl (kk_wl ?_))
  refine wl_u rfl (ow_y (yh_assign rfl rfl) rfl rfl (kk_wl ?_))
  refine wl_nil ?_
  refine ex_seq ?_
  refine cw_seq ?_
  refine cw_region ?_
  refine wl_u rfl (ow_y (yh_move rfl rfl) rfl rfl (kk_wl ?_))
  refine wl_u rfl (ow_y (yh_field Tb rfl rfl rfl) rfl rfl (kk_wl ?_))
  refine wl_u rfl (ow_y (yh_field Tb rfl rfl rfl) rfl rfl (kk_wl ?_))
  refine wl_u rfl (ow_y (yh_loadB Tb (k := 0) rfl rfl rfl rfl rfl) rfl rfl (kk_wl ?_))
  obtain ⟨x11, hx11, h⟩ := bd h
  refine wl_u rfl (ow_cV rfl hb74 rfl (fun w hw => c_spec_l2At N _ _ _ hx11 w (Lay.at_ h_u0 hw)) rfl rfl (kk_wl ?_))
  refine wl_u rfl (ow_y (yh_assign rfl rfl) rfl rfl (kk_wl ?_))
  refine wl_nil ?_
  refine ex_seq ?_
  refine cw_seq ?_
  refine cw_block ?_
  obtain ⟨j104, he104, hk104⟩ := bd h
  clear h
  refine cw_cut (σ := Unit) (fun s => True) (fun s => [(0, .slice a_u0 u0.length c_u0), (3, .pointer (some ⟨g3, 0, none⟩)), (6, .int .i64 x11), (12, .bool j104)]) (fun s => [blkC g3 30 [.int .i64 u1.kind, .string u1.step.name, .slice a_u1_step_after u1.step.after.length c_u1_step_after, .bool u1.step.undo]]) (fun s hI => ?_) (fun KL hn104 => ?_)
  · skip
    have h := hk104
    refine cw_split rfl (fun cc1 => ?_) (fun cc1 => ?_)
    · skip
      replace h := bt cc1 h
      refine cw_seq ?_
      refine cw_region ?_
      refine wl_u rfl (ow_y (yh_move rfl rfl) rfl rfl (kk_wl ?_))
      refine wl_u rfl (ow_y (yh_field Tb rfl rfl rfl) rfl rfl (kk_wl ?_))
      refine wl_u rfl (ow_y (yh_loadBN Tb (k := 0) rfl rfl rfl rfl rfl rfl rfl) rfl rfl (kk_wl ?_))
      obtain ⟨x23, hx23, h⟩ := bd h
      refine wl_u rfl (ow_cN1 rfl hb79 rfl (fun w hw => c_spec_l12With N _ _ _ hx23 w (Lay.at_ h_u0 hw) (Lay.at_ h_u1_step_after hw)) rfl rfl (fun a23 c23 F23 => kk_wl ?_))
      refine wl_u rfl (ow_y (yh_assign rfl rfl) rfl rfl (kk_wl ?_))
      refine wl_u rfl (ow_y (yh_assign rfl rfl) rfl rfl (kk_wl ?_))
      refine wl_nil ?_
      refine ex_seq ?_
      refine cw_ret ?_
      refine ex_block_ret ?_
      refine ex_then_ret ?_
      obtain rfl := Option.some.inj h
      exact ex_r2 Tb rfl (.tmp rfl) (.tmp rfl) (fun wq hq => ⟨_, rfl, hq.ext, ⟨a23, c23, F23, rfl, NewC.sel [0] hq rfl⟩⟩)
    · skip
      replace h := bf cc1 h
      obtain ⟨j106, he106, hk106⟩ := bd h
      clear h
      refine cw_cut (σ := Unit) (fun s => True) (fun s => [(0, .slice a_u0 u0.length c_u0), (3, .pointer (some ⟨g3, 0, none⟩)), (6, .int .i64 x11), (24, .bool j106)]) (fun s => [blkC g3 30 [.int .i64 u1.kind, .string u1.step.name, .slice a_u1_step_after u1.step.after.length c_u1_step_after, .bool u1.step.undo]]) (fun s hI => ?_) (fun KL hn106 => ?_)
      · skip
        have h := hk106
        refine cw_split rfl (fun cc2 => ?_) (fun cc2 => ?_)
        · skip
          replace h := bt cc2 h
          refine cw_seq ?_
          refine cw_region ?_
          refine wl_u rfl (ow_y (yh_move rfl rfl) rfl rfl (kk_wl ?_))
          refine wl_u rfl (ow_y (yh_field Tb rfl rfl rfl) rfl rfl (kk_wl ?_))
          refine wl_u rfl (ow_y (yh_field Tb rfl rfl rfl) rfl rfl (kk_wl ?_))
          refine wl_u rfl (ow_y (yh_loadB Tb (k := 0) rfl rfl rfl rfl rfl) rfl rfl (kk_wl ?_))
          obtain ⟨x36, hx36, h⟩ := bd h
          refine wl_u rfl (ow_cN1 rfl hb80 rfl (fun w hw => c_spec_l12Without N _ _ _ hx36 w (Lay.at_ h_u0 hw)) rfl rfl (fun a36 c36 F36 => kk_wl ?_))
          refine wl_u rfl (ow_y (yh_assign rfl rfl) rfl rfl (kk_wl ?_))
          refine wl_u rfl (ow_y (yh_assign rfl rfl) rfl rfl (kk_wl ?_))
          refine wl_nil ?_
          refine ex_seq ?_
          refine cw_ret ?_
          refine ex_block_ret ?_
          refine ex_then_ret ?_
          obtain rfl := Option.some.inj h
          exact ex_r2 Tb rfl (.tmp rfl) (.tmp rfl) (fun wq hq => ⟨_, rfl, hq.ext, ⟨a36, c36, F36, rfl, NewC.sel [0] hq rfl⟩⟩)
        · skip
          replace h := bf cc2 h
          obtain ⟨j108, he108, hk108⟩ := bd h
          clear h
          refine cw_cut (σ := Unit) (fun s => True) (fun s => [(0, .slice a_u0 u0.length c_u0), (3, .pointer (some ⟨g3, 0, none⟩)), (6, .int .i64 x11), (37, .bool j108)]) (fun s => [blkC g3 30 [.int .i64 u1.kind, .string u1.step.name, .slice a_u1_step_after u1.step.after.length c_u1_step_after, .bool u1.step.undo]]) (fun s hI => ?_) (fun KL hn108 => ?_)
          · skip
            have h := hk108
            refine cw_split rfl (fun cc3 => ?_) (fun cc3 => ?_)
            · skip
              replace h := bt cc3 h
              refine cw_seq ?_
              refine cw_dr [0, 1, 2, 3, 4, 5, 6, 7, 8, 9, 10, 11, 12, 14, 15] [] [blkC g3 30 [.int .i64 u1.kind, .string u1.step.name, .slice a_u1_step_after u1.step.after.length c_u1_step_after, .bool u1.step.undo]] (by kernel_rfl) ?_
              refine wd_take (i := 0) [0] rfl rfl rfl rfl rfl (by kernel_rfl) (by kernel_rfl) (fun _ _ _ _ h => h) (yh_move rfl rfl) ?_
              refine wd_take (i := 1) [0] rfl rfl rfl rfl rfl (by kernel_rfl) (by kernel_rfl) (fun _ _ _ _ h => h) (yh_field Tb rfl rfl rfl) ?_
              refine wd_take (i := 2) [0] rfl rfl rfl rfl rfl (by kernel_rfl) (by kernel_rfl) (fun _ _ _ _ h => h) (yh_field Tb rfl rfl rfl) ?_
              refine wd_take (i := 3) [0] rfl rfl rfl rfl rfl (by kernel_rfl) (by kernel_rfl) (fun _ _ _ _ h => h) (yh_loadB Tb (k := 0) rfl rfl rfl rfl rfl) ?_
              refine wd_take (i := 4) [0] rfl rfl rfl rfl rfl (by kernel_rfl) (by kernel_rfl) (fun _ _ _ _ h => h) (yh_field Tb rfl rfl rfl) ?_
              refine wd_take (i := 5) [0] rfl rfl rfl rfl rfl (by kernel_rfl) (by kernel_rfl) (fun _ _ _ _ h => h) (yh_field Tb rfl rfl rfl) ?_
              refine wd_take (i := 6) [0] rfl rfl rfl rfl rfl (by kernel_rfl) (by kernel_rfl) (fun _ _ _ _ h => h) (yh_loadB Tb (k := 0) rfl rfl rfl rfl rfl) ?_
              refine wd_take (i := 7) [0] rfl rfl rfl rfl rfl (by kernel_rfl) (by kernel_rfl) (fun _ _ _ _ h => h) (yh_move rfl rfl) ?_
              refine wd_take (i := 8) [0] rfl rfl rfl rfl rfl (by kernel_rfl) (by kernel_rfl) (fun _ _ _ _ h => h) (yh_move rfl rfl) ?_
              obtain ⟨y54, zy54, h⟩ := bd h
              obtain ⟨iy54, hy54⟩ := geti_some zy54
              obtain ⟨b54, o54, ha54⟩ := sl_addr h_u0 hy54
              subst ha54
              obtain ⟨a54, e54, hc54, hf54⟩ := get_step h_u0 hy54
              have mx54 := rd_max hf54
              refine wd_take (i := 9) [0] rfl rfl rfl rfl rfl (by kernel_rfl) (by kernel_rfl) (fun _ _ _ _ h => h) (yh_idx Tb (k := x11.toNat) rfl rfl rfl iy54 (get_lt hy54) rfl rfl) ?_
              refine wd_take (i := 10) [0] rfl rfl rfl rfl rfl (by kernel_rfl) (by kernel_rfl) (fun _ _ _ _ h => h) (yh_field Tb rfl rfl rfl) ?_
              refine wd_take (i := 11) [0] rfl rfl rfl rfl rfl (by kernel_rfl) (by kernel_rfl) (fun _ _ _ _ h => h) (yh_loadAF Tb (j := 2) rfl rfl rfl hc54 rfl) ?_
              refine wd_take (i := 12) [0] rfl rfl rfl rfl rfl (by kernel_rfl) (by kernel_rfl) (fun _ _ _ _ h => h) (yh_buildA rfl rfl (by kernel_rfl)) ?_
              obtain ⟨x58, hx58, h⟩ := bd h
              refine wd_one 13 rfl rfl (by kernel_rfl) (ow_cN1 rfl hb79 rfl (fun w hw => c_spec_l12With N _ _ _ hx58 w (Lay.at_ h_u0 hw) (Lay.at_ h_u1_step_after hw)) rfl rfl (fun a58 c58 F58 => kk_wd [1] (by kernel_rfl) ?_))
              refine wd_take (i := 14) [1] rfl rfl rfl rfl rfl (by kernel_rfl) (by kernel_rfl) (fun _ _ _ _ h => h) (yh_assign rfl rfl) ?_
              refine wd_take (i := 15) [1] rfl rfl rfl rfl rfl (by kernel_rfl) (by kernel_rfl) (fun _ _ _ _ h => h) (yh_assign rfl rfl) ?_
              refine wd_done (by kernel_rfl) ?_
              refine ex_seq ?_
              refine cw_ret ?_
              refine ex_block_ret ?_
              refine ex_then_ret ?_
              obtain rfl := Option.some.inj h
              exact ex_r2 Tb rfl (.tmp rfl) (.tmp rfl) (fun wq hq => ⟨_, rfl, hq.ext, ⟨a58, c58, F58, rfl, NewC.sel [0] hq rfl⟩⟩)
            · skip
              replace h := bf cc3 h
              obtain ⟨j111, he111, hk111⟩ := bd h
              clear h
              refine cw_cut (σ := Unit) (fun s => True) (fun s => [(0, .slice a_u0 u0.length c_u0), (3, .pointer (some ⟨g3, 0, none⟩)), (6, .int .i64 x11), (59, .bool j111)]) (fun s => [blkC g3 30 [.int .i64 u1.kind, .string u1.step.name, .slice a_u1_step_after u1.step.after.length c_u1_step_after, .bool u1.step.undo]]) (fun s hI => ?_) (fun KL hn111 => ?_)
              · skip
                have h := hk111
                refine cw_split rfl (fun cc4 => ?_) (fun cc4 => ?_)
                · skip
                  replace h := bt cc4 h
                  refine cw_seq ?_
                  refine cw_dr [0, 1, 2, 3, 4, 5, 6, 7, 8, 9, 10, 11, 12, 14, 15] [] [blkC g3 30 [.int .i64 u1.kind, .string u1.step.name, .slice a_u1_step_after u1.step.after.length c_u1_step_after, .bool u1.step.undo]] (by kernel_rfl) ?_
                  refine wd_take (i := 0) [0] rfl rfl rfl rfl rfl (by kernel_rfl) (by kernel_rfl) (fun _ _ _ _ h => h) (yh_move rfl rfl) ?_
                  refine wd_take (i := 1) [0] rfl rfl rfl rfl rfl (by kernel_rfl) (by kernel_rfl) (fun _ _ _ _ h => h) (yh_field Tb rfl rfl rfl) ?_
                  refine wd_take (i := 2) [0] rfl rfl rfl rfl rfl (by kernel_rfl) (by kernel_rfl) (fun _ _ _ _ h => h) (yh_field Tb rfl rfl rfl) ?_
                  refine wd_take (i := 3) [0] rfl rfl rfl rfl rfl (by kernel_rfl) (by kernel_rfl) (fun _ _ _ _ h => h) (yh_loadB Tb (k := 0) rfl rfl rfl rfl rfl) ?_
                  refine wd_take (i := 4) [0] rfl rfl rfl rfl rfl (by kernel_rfl) (by kernel_rfl) (fun _ _ _ _ h => h) (yh_move rfl rfl) ?_
                  refine wd_take (i := 5) [0] rfl rfl rfl rfl rfl (by kernel_rfl) (by kernel_rfl) (fun _ _ _ _ h => h) (yh_move rfl rfl) ?_
                  obtain ⟨y73, zy73, h⟩ := bd h
                  obtain ⟨iy73, hy73⟩ := geti_some zy73
                  obtain ⟨b73, o73, ha73⟩ := sl_addr h_u0 hy73
                  subst ha73
                  obtain ⟨a73, e73, hc73, hf73⟩ := get_step h_u0 hy73
                  have mx73 := rd_max hf73
                  refine wd_take (i := 6) [0] rfl rfl rfl rfl rfl (by kernel_rfl) (by kernel_rfl) (fun _ _ _ _ h => h) (yh_idx Tb (k := x11.toNat) rfl rfl rfl iy73 (get_lt hy73) rfl rfl) ?_
                  refine wd_take (i := 7) [0] rfl rfl rfl rfl rfl (by kernel_rfl) (by kernel_rfl) (fun _ _ _ _ h => h) (yh_field Tb rfl rfl rfl) ?_
                  refine wd_take (i := 8) [0] rfl rfl rfl rfl rfl (by kernel_rfl) (by kernel_rfl) (fun _ _ _ _ h => h) (yh_loadAF Tb (j := 1) rfl rfl rfl hc73 rfl) ?_
                  refine wd_take (i := 9) [0] rfl rfl rfl rfl rfl (by kernel_rfl) (by kernel_rfl) (fun _ _ _ _ h => h) (yh_field Tb rfl rfl rfl) ?_
                  refine wd_take (i := 10) [0] rfl rfl rfl rfl rfl (by kernel_rfl) (by kernel_rfl) (fun _ _ _ _ h => h) (yh_field Tb rfl rfl rfl) ?_
                  refine wd_take (i := 11) [0] rfl rfl rfl rfl rfl (by kernel_rfl) (by kernel_rfl) (fun _ _ _ _ h => h) (yh_loadB Tb (k := 0) rfl rfl rfl rfl rfl) ?_
                  refine wd_take (i := 12) [0] rfl rfl rfl rfl rfl (by kernel_rfl) (by kernel_rfl) (fun _ _ _ _ h => h) (yh_buildA rfl rfl (by kernel_rfl)) ?_
                  obtain ⟨x80, hx80, h⟩ := bd h
                  refine wd_one 13 rfl rfl (by kernel_rfl) (ow_cN1 rfl hb79 rfl (fun w hw => c_spec_l12With N _ _ _ hx80 w (Lay.at_ h_u0 hw) (Lay.at_ hf73 hw)) rfl rfl (fun a80 c80 F80 => kk_wd [1] (by kernel_rfl) ?_))
                  refine wd_take (i := 14) [1] rfl rfl rfl rfl rfl (by kernel_rfl) (by kernel_rfl) (fun _ _ _ _ h => h) (yh_assign rfl rfl) ?_
                  refine wd_take (i := 15) [1] rfl rfl rfl rfl rfl (by kernel_rfl) (by kernel_rfl) (fun _ _ _ _ h => h) (yh_assign rfl rfl) ?_
                  refine wd_done (by kernel_rfl) ?_
                  refine ex_seq ?_
                  refine cw_ret ?_
                  refine ex_block_ret ?_
                  refine ex_then_ret ?_
                  obtain rfl := Option.some.inj h
                  exact ex_r2 Tb rfl (.tmp rfl) (.tmp rfl) (fun wq hq => ⟨_, rfl, hq.ext, ⟨a80, c80, F80, rfl, NewC.sel [0] hq rfl⟩⟩)
                · skip
                  replace h := bf cc4 h
                  refine cw_skip ?_
                  refine ex_block_normal ?_
                  refine ex_seq ?_
                  refine cw_seq ?_
                  refine cw_region ?_
                  refine wl_u rfl (ow_lit0 Tb rfl rfl rfl rfl rfl rfl (fun g81 => kk_chg (c' := owC stepsL [g81] [.slice (some ⟨g81, 0, none⟩) 0 0] ([] : List Step)) 0 rfl (fun w hA => own_stepsL ([] : List Step) hA rfl (by simp [maxLen])) rfl (kk_wl ?_)))
                  refine wl_u rfl (ow_y (yh_assign rfl rfl) rfl rfl (kk_wl ?_))
                  refine wl_u rfl (ow_y (yh_assign rfl rfl) rfl rfl (kk_wl ?_))
                  refine wl_nil ?_
                  refine ex_seq ?_
                  refine cw_ret ?_
                  obtain rfl := Option.some.inj h
                  exact ex_r2 Tb rfl (.tmp rfl) (.tmp rfl) (fun wq hq => ⟨_, rfl, hq.ext, ⟨(some ⟨g81, 0, none⟩), 0, [g81], rfl, NewC.sel [0] hq rfl⟩⟩)
              · skip
                have h := he111
                refine cw_region ?_
                refine wl_u rfl (ow_y (yh_field Tb rfl rfl rfl) rfl rfl (kk_wl ?_))
                refine wl_u rfl (ow_y (yh_loadB Tb (k := 0) rfl rfl rfl rfl rfl) rfl rfl (kk_wl ?_))
                refine wl_u rfl (ow_y (yh_cmpI rfl rfl rfl rfl) rfl rfl (kk_wl ?_))
                refine wl_u rfl (ow_y (yh_move rfl rfl) rfl rfl (kk_wl ?_))
                refine wl_s rfl rfl (fun cc5 => ?_) (fun cc5 => ?_)
                · skip
                  replace h := bt cc5 h
                  have q1 := eqb_true.1 cc5
                  refine wl_g rfl rfl (ow_y (yh_move rfl rfl) rfl rfl (kk_wl ?_))
                  refine wl_g rfl rfl (ow_y (yh_cmpI rfl rfl rfl rfl) rfl rfl (kk_wl ?_))
                  refine wl_u rfl (ow_y (yh_pickT rfl rfl rfl) rfl rfl (kk_wl ?_))
                  refine wl_u rfl (ow_y (yh_assign rfl rfl) rfl rfl (kk_wl ?_))
                  refine wl_nil ?_
                  obtain rfl := Option.some.inj h
                  exact ex_next [0] (hn111 () trivial) ⟨rfl, rfl, rfl, rfl, trivial⟩ (by kernel_rfl)
                · skip
                  replace h := bf cc5 h
                  have q2 := eqb_false.1 cc5
                  refine wl_n rfl rfl rfl rfl ?_
                  refine wl_n rfl rfl rfl rfl ?_
                  refine wl_u rfl (ow_y (yh_pickF rfl rfl rfl) rfl rfl (kk_wl ?_))
                  refine wl_u rfl (ow_y (yh_assign rfl rfl) rfl rfl (kk_wl ?_))
                  refine wl_nil ?_
                  obtain rfl := Option.some.inj h
                  exact ex_next [0] (hn111 () trivial) ⟨rfl, rfl, rfl, rfl, trivial⟩ (by kernel_rfl)
          · skip
            have h := he108
            refine cw_region ?_
            refine wl_u rfl (ow_y (yh_field Tb rfl rfl rfl) rfl rfl (kk_wl ?_))
            refine wl_u rfl (ow_y (yh_loadB Tb (k := 0) rfl rfl rfl rfl rfl) rfl rfl (kk_wl ?_))
            refine wl_u rfl (ow_y (yh_cmpI rfl rfl rfl rfl) rfl rfl (kk_wl ?_))
            refine wl_u rfl (ow_y (yh_move rfl rfl) rfl rfl (kk_wl ?_))
            refine wl_s rfl rfl (fun cc6 => ?_) (fun cc6 => ?_)
            · skip
              replace h := bt cc6 h
              have q3 := eqb_true.1 cc6
              refine wl_g rfl rfl (ow_y (yh_move rfl rfl) rfl rfl (kk_wl ?_))
              refine wl_g rfl rfl (ow_y (yh_cmpI rfl rfl rfl rfl) rfl rfl (kk_wl ?_))
              refine wl_u rfl (ow_y (yh_pickT rfl rfl rfl) rfl rfl (kk_wl ?_))
              refine wl_u rfl (ow_y (yh_assign rfl rfl) rfl rfl (kk_wl ?_))
              refine wl_nil ?_
              obtain rfl := Option.some.inj h
              exact ex_next [0] (hn108 () trivial) ⟨rfl, rfl, rfl, rfl, trivial⟩ (by kernel_rfl)
            · skip
              replace h := bf cc6 h
              have q4 := eqb_false.1 cc6
              refine wl_n rfl rfl rfl rfl ?_
              refine wl_n rfl rfl rfl rfl ?_
              refine wl_u rfl (ow_y (yh_pickF rfl rfl rfl) rfl rfl (kk_wl ?_))
              refine wl_u rfl (ow_y (yh_assign rfl rfl) rfl rfl (kk_wl ?_))
              refine wl_nil ?_
              obtain rfl := Option.some.inj h
              exact ex_next [0] (hn108 () trivial) ⟨rfl, rfl, rfl, rfl, trivial⟩ (by kernel_rfl)
      · skip
        have h := he106
        refine cw_region ?_
        refine wl_u rfl (ow_y (yh_field Tb rfl rfl rfl) rfl rfl (kk_wl ?_))
        refine wl_u rfl (ow_y (yh_loadB Tb (k := 0) rfl rfl rfl rfl rfl) rfl rfl (kk_wl ?_))
        refine wl_u rfl (ow_y (yh_cmpI rfl rfl rfl rfl) rfl rfl (kk_wl ?_))
        refine wl_u rfl (ow_y (yh_move rfl rfl) rfl rfl (kk_wl ?_))
        refine wl_s rfl rfl (fun cc7 => ?_) (fun cc7 => ?_)
        · skip
          replace h := bt cc7 h
          have q5 := eqb_true.1 cc7
          refine wl_g rfl rfl (ow_y (yh_move rfl rfl) rfl rfl (kk_wl ?_))
          refine wl_g rfl rfl (ow_y (yh_cmpI rfl rfl rfl rfl) rfl rfl (kk_wl ?_))
          refine wl_u rfl (ow_y (yh_pickT rfl rfl rfl) rfl rfl (kk_wl ?_))
          refine wl_u rfl (ow_y (yh_assign rfl rfl) rfl rfl (kk_wl ?_))
          refine wl_nil ?_
          obtain rfl := Option.some.inj h
          exact ex_next [0] (hn106 () trivial) ⟨rfl, rfl, rfl, rfl, trivial⟩ (by kernel_rfl)
        · skip
          replace h := bf cc7 h
          have q6 := eqb_false.1 cc7
          refine wl_n rfl rfl rfl rfl ?_
          refine wl_n rfl rfl rfl rfl ?_
          refine wl_u rfl (ow_y (yh_pickF rfl rfl rfl) rfl rfl (kk_wl ?_))
          refine wl_u rfl (ow_y (yh_assign rfl rfl) rfl rfl (kk_wl ?_))
          refine wl_nil ?_
          obtain rfl := Option.some.inj h
          exact ex_next [0] (hn106 () trivial) ⟨rfl, rfl, rfl, rfl, trivial⟩ (by kernel_rfl)
  · skip
    have h := he104
    refine cw_region ?_
    refine wl_u rfl (ow_y (yh_field Tb rfl rfl rfl) rfl rfl (kk_wl ?_))
    refine wl_u rfl (ow_y (yh_loadB Tb (k := 0) rfl rfl rfl rfl rfl) rfl rfl (kk_wl ?_))
    refine wl_u rfl (ow_y (yh_cmpI rfl rfl rfl rfl) rfl rfl (kk_wl ?_))
    refine wl_u rfl (ow_y (yh_move rfl rfl) rfl rfl (kk_wl ?_))
    refine wl_s rfl rfl (fun cc8 => ?_) (fun cc8 => ?_)
    · skip
      replace h := bt cc8 h
      have q7 := eqb_true.1 cc8
      refine wl_g rfl rfl (ow_y (yh_move rfl rfl) rfl rfl (kk_wl ?_))
      refine wl_g rfl rfl (ow_y (yh_cmpI rfl rfl rfl rfl) rfl rfl (kk_wl ?_))
      refine wl_u rfl (ow_y (yh_pickT rfl rfl rfl) rfl rfl (kk_wl ?_))
      refine wl_u rfl (ow_y (yh_assign rfl rfl) rfl rfl (kk_wl ?_))
      refine wl_nil ?_
      obtain rfl := Option.some.inj h
      exact ex_next [0] (hn104 () trivial) ⟨rfl, rfl, rfl, rfl, trivial⟩ (by kernel_rfl)
    · skip
      replace h := bf cc8 h
      have q8 := eqb_false.1 cc8
      refine wl_n rfl rfl rfl rfl ?_
      refine wl_n rfl rfl rfl rfl ?_
      refine wl_u rfl (ow_y (yh_pickF rfl rfl rfl) rfl rfl (kk_wl ?_))
      refine wl_u rfl (ow_y (yh_assign rfl rfl) rfl rfl (kk_wl ?_))
      refine wl_nil ?_
      obtain rfl := Option.some.inj h
      exact ex_next [0] (hn104 () trivial) ⟨rfl, rfl, rfl, rfl, trivial⟩ (by kernel_rfl)

def m_spec_FlowChange (N : Nat) (f : Flow) (c : Change) : Option (Flow × Bool) := (m_spec_FlowValid N f).bind fun x10 => (bif !x10 then some ((Flow.mk 0 []), false)
 else (m_spec_StepValid N c.step).bind fun x15 => (bif !x15 then some ((Flow.mk 0 []), false)
 else (m_spec_l12Steps N f.steps c).bind fun x23 => (bif !x23.2 then some ((Flow.mk 0 []), false)
 else (m_spec_FlowValid N (Flow.mk (w64 (f.ver + 1)) x23.1)).bind fun x35 => (bif !x35 then some ((Flow.mk 0 []), false)
 else some ((Flow.mk (w64 (f.ver + 1)) x23.1), true)))))

set_option maxHeartbeats 4000000 in
theorem c_spec_FlowChange (N : Nat) (f : Flow) (c : Change) (res : Flow × Bool) (h : m_spec_FlowChange N f c = some res) (w : World) {a_c_step_after a_f_steps : Option Addr} {c_c_step_after c_f_steps : Nat} (h_f_steps : stepsL.rd w [] [.slice a_f_steps f.steps.length c_f_steps] f.steps) (h_c_step_after : strsL.rd w [] [.slice a_c_step_after c.step.after.length c_c_step_after] c.step.after) : Ret Try.prog 9 [.agg #[.int .i64 f.ver, .slice a_f_steps f.steps.length c_f_steps], .agg #[.int .i64 c.kind, .string c.step.name, .slice a_c_step_after c.step.after.length c_c_step_after, .bool c.step.undo]] w [] fun v w' => ∃ a1 c1 F1, v = .tuple #[.agg #[.int .i64 res.1.ver, .slice a1 res.1.steps.length c1], .bool res.2] ∧ NewC w w' [owC stepsL F1 [.slice a1 res.1.steps.length c1] res.1.steps] := by
  have mh_f_steps := rd_max h_f_steps
  have mh_c_step_after := rd_max h_c_step_after
  unfold m_spec_FlowChange at h
  refine ret_enter Try.func9 rfl Try.ntmps9 rfl (Hp.refl w _) ?_
  refine cw_seq ?_
  refine cw_region ?_
  refine wl_u rfl (ow_boxA rfl rfl rfl rfl (fun g2 => kk_wl ?_))
  refine wl_u rfl (ow_boxA rfl rfl rfl rfl (fun g3 => kk_wl ?_))
  refine wl_u rfl (ow_allocA Tb rfl rfl rfl rfl (fun g4 => kk_wl ?_))
  refine wl_u rfl (ow_y (yh_assign rfl rfl) rfl rfl (kk_wl ?_))
  refine wl_nil ?_
  refine ex_seq ?_
  refine cw_seq ?_
  refine cw_seq ?_
  refine cw_region ?_
  refine wl_u rfl (ow_y (yh_loadBA Tb (k := 2) rfl rfl rfl rfl rfl rfl) rfl rfl (kk_wl ?_))
  obtain ⟨x10, hx10, h⟩ := bd h
  refine wl_u rfl (ow_cV rfl hb38 rfl (fun w hw => c_spec_FlowValid N _ _ hx10 w (Lay.at_ h_f_steps hw)) rfl rfl (kk_wl ?_))
  refine wl_u rfl (ow_y (yh_not rfl rfl) rfl rfl (kk_wl ?_))
  refine wl_u rfl (ow_y (yh_move rfl rfl) rfl rfl (kk_wl ?_))
  refine wl_s rfl rfl (fun cc1 => ?_) (fun cc1 => ?_)
  · skip
    replace h := bt cc1 h
    refine wl_n rfl rfl rfl rfl ?_
    refine wl_n rfl rfl rfl rfl ?_
    refine wl_n rfl rfl rfl rfl ?_
    refine wl_n rfl rfl rfl rfl ?_
    refine wl_u rfl (ow_y (yh_pickT rfl rfl rfl) rfl rfl (kk_wl ?_))
    refine wl_nil ?_
    refine ex_seq ?_
    refine cw_true rfl ?_
    refine cw_seq ?_
    refine cw_region ?_
    refine wl_u rfl (ow_y (yh_build [.int .i64 0, .slice none 0 0] rfl rfl (by kernel_rfl)) rfl rfl (kk_wl ?_))
    refine wl_u rfl (ow_storeA Tb (k := 0) rfl rfl rfl rfl rfl rfl rfl rfl rfl (kk_wl ?_))
    refine wl_u rfl (ow_y (yh_assign rfl rfl) rfl rfl (kk_wl ?_))
    refine wl_nil ?_
    refine ex_seq ?_
    refine cw_ret ?_
    refine ex_then_ret ?_
    refine ex_nilS stepsL rfl ?_
    obtain rfl := Option.some.inj h
    exact ex_r2 Tb rfl (.cellA 1 rfl rfl rfl rfl rfl) (.tmp rfl) (fun wq hq => ⟨_, rfl, hq.ext, ⟨none, 0, [], rfl, NewC.sel [0] hq rfl⟩⟩)
  · skip
    replace h := bf cc1 h
    refine wl_g rfl rfl (ow_y (yh_field Tb rfl rfl rfl) rfl rfl (kk_wl ?_))
    refine wl_g rfl rfl (ow_y (yh_loadBN Tb (k := 1) rfl rfl rfl rfl rfl rfl rfl) rfl rfl (kk_wl ?_))
    obtain ⟨x15, hx15, h⟩ := bd h
    refine wl_g rfl rfl (ow_cV rfl hb39 rfl (fun w hw => c_spec_StepValid N _ _ hx15 w (Lay.at_ h_c_step_after hw)) rfl rfl (kk_wl ?_))
    refine wl_g rfl rfl (ow_y (yh_not rfl rfl) rfl rfl (kk_wl ?_))
    refine wl_u rfl (ow_y (yh_pickF rfl rfl rfl) rfl rfl (kk_wl ?_))
    refine wl_nil ?_
    refine ex_seq ?_
    refine cw_split rfl (fun cc2 => ?_) (fun cc2 => ?_)
    · skip
      replace h := bt cc2 h
      refine cw_seq ?_
      refine cw_region ?_
      refine wl_u rfl (ow_y (yh_build [.int .i64 0, .slice none 0 0] rfl rfl (by kernel_rfl)) rfl rfl (kk_wl ?_))
      refine wl_u rfl (ow_storeA Tb (k := 0) rfl rfl rfl rfl rfl rfl rfl rfl rfl (kk_wl ?_))
      refine wl_u rfl (ow_y (yh_assign rfl rfl) rfl rfl (kk_wl ?_))
      refine wl_nil ?_
      refine ex_seq ?_
      refine cw_ret ?_
      refine ex_then_ret ?_
      refine ex_nilS stepsL rfl ?_
      obtain rfl := Option.some.inj h
      exact ex_r2 Tb rfl (.cellA 1 rfl rfl rfl rfl rfl) (.tmp rfl) (fun wq hq => ⟨_, rfl, hq.ext, ⟨none, 0, [], rfl, NewC.sel [0] hq rfl⟩⟩)
    · skip
      replace h := bf cc2 h
      refine cw_skip ?_
      refine ex_seq ?_
      refine cw_seq ?_
      refine cw_region ?_
      refine wl_u rfl (ow_y (yh_field Tb rfl rfl rfl) rfl rfl (kk_wl ?_))
      refine wl_u rfl (ow_y (yh_loadB Tb (k := 2) rfl rfl rfl rfl rfl) rfl rfl (kk_wl ?_))
      refine wl_u rfl (ow_y (yh_loadBA Tb (k := 1) rfl rfl rfl rfl rfl rfl) rfl rfl (kk_wl ?_))
      obtain ⟨x23, hx23, h⟩ := bd h
      refine wl_u rfl (ow_cN1 rfl hb40 rfl (fun w hw => c_spec_l12Steps N _ _ _ hx23 w (Lay.at_ h_f_steps hw) (Lay.at_ h_c_step_after hw)) rfl rfl (fun a23 c23 F23 => kk_wl ?_))
      refine wl_u rfl (ow_y (yh_move rfl rfl) rfl rfl (kk_wl ?_))
      refine wl_u rfl (ow_y (yh_extract rfl rfl rfl) rfl rfl (kk_wl ?_))
      refine wl_u rfl (ow_y (yh_extract rfl rfl rfl) rfl rfl (kk_wl ?_))
      refine wl_u rfl (ow_y (yh_assign rfl rfl) rfl rfl (kk_wl ?_))
      refine wl_u rfl (ow_y (yh_assign rfl rfl) rfl rfl (kk_wl ?_))
      refine wl_nil ?_
      refine ex_seq ?_
      refine cw_seq ?_
      refine cw_region ?_
      refine wl_u rfl (ow_y (yh_field Tb rfl rfl rfl) rfl rfl (kk_wl ?_))
      refine wl_u rfl (ow_y (yh_loadB Tb (k := 3) rfl rfl rfl rfl rfl) rfl rfl (kk_wl ?_))
      refine wl_u rfl (ow_y (yh_arW rfl rfl rfl rfl) rfl rfl (kk_wl ?_))
      refine wl_u rfl (ow_y (yh_move rfl rfl) rfl rfl (kk_wl ?_))
      refine wl_u rfl (ow_y (yh_buildA rfl rfl (by kernel_rfl)) rfl rfl (kk_wl ?_))
      refine wl_u rfl (ow_allocA Tb rfl rfl rfl rfl (fun g8 => kk_wl ?_))
      refine wl_u rfl (ow_storeA Tb (k := 0) rfl rfl rfl rfl rfl rfl rfl rfl rfl (kk_wl ?_))
      refine wl_nil ?_
      refine ex_seq ?_
      refine cw_seq ?_
      refine cw_seq ?_
      refine cw_region ?_
      refine wl_u rfl (ow_y (yh_move rfl rfl) rfl rfl (kk_wl ?_))
      refine wl_u rfl (ow_y (yh_not rfl rfl) rfl rfl (kk_wl ?_))
      refine wl_u rfl (ow_y (yh_move rfl rfl) rfl rfl (kk_wl ?_))
      refine wl_s rfl rfl (fun cc3 => ?_) (fun cc3 => ?_)
      · skip
        replace h := bt cc3 h
        refine wl_n rfl rfl rfl rfl ?_
        refine wl_n rfl rfl rfl rfl ?_
        refine wl_n rfl rfl rfl rfl ?_
        refine wl_u rfl (ow_y (yh_pickT rfl rfl rfl) rfl rfl (kk_wl ?_))
        refine wl_nil ?_
        refine ex_seq ?_
        refine cw_true rfl ?_
        refine cw_seq ?_
        refine cw_region ?_
        refine wl_u rfl (ow_y (yh_build [.int .i64 0, .slice none 0 0] rfl rfl (by kernel_rfl)) rfl rfl (kk_wl ?_))
        refine wl_u rfl (ow_storeA Tb (k := 2) rfl rfl rfl rfl rfl rfl rfl rfl rfl (kk_wl ?_))
        refine wl_u rfl (ow_y (yh_assign rfl rfl) rfl rfl (kk_wl ?_))
        refine wl_nil ?_
        refine ex_seq ?_
        refine cw_ret ?_
        refine ex_then_ret ?_
        refine ex_nilS stepsL rfl ?_
        obtain rfl := Option.some.inj h
        exact ex_r2 Tb rfl (.cellA 1 rfl rfl rfl rfl rfl) (.tmp rfl) (fun wq hq => ⟨_, rfl, hq.ext, ⟨none, 0, [], rfl, NewC.sel [0] hq rfl⟩⟩)
      · skip
        replace h := bf cc3 h
        refine wl_g rfl rfl (ow_y (yh_loadBA Tb (k := 0) rfl rfl rfl rfl rfl rfl) rfl rfl (kk_wl ?_))
        obtain ⟨x35, hx35, h⟩ := bd h
        refine wl_g rfl rfl (ow_cV rfl hb38 rfl (fun w hw => c_spec_FlowValid N _ _ hx35 w (rdo (A := stepsL) 1 rfl hw)) rfl rfl (kk_wl ?_))
        refine wl_g rfl rfl (ow_y (yh_not rfl rfl) rfl rfl (kk_wl ?_))
        refine wl_u rfl (ow_y (yh_pickF rfl rfl rfl) rfl rfl (kk_wl ?_))
        refine wl_nil ?_
        refine ex_seq ?_
        refine cw_split rfl (fun cc4 => ?_) (fun cc4 => ?_)
        · skip
          replace h := bt cc4 h
          refine cw_seq ?_
          refine cw_region ?_
          refine wl_u rfl (ow_y (yh_build [.int .i64 0, .slice none 0 0] rfl rfl (by kernel_rfl)) rfl rfl (kk_wl ?_))
          refine wl_u rfl (ow_storeA Tb (k := 2) rfl rfl rfl rfl rfl rfl rfl rfl rfl (kk_wl ?_))
          refine wl_u rfl (ow_y (yh_assign rfl rfl) rfl rfl (kk_wl ?_))
          refine wl_nil ?_
          refine ex_seq ?_
          refine cw_ret ?_
          refine ex_then_ret ?_
          refine ex_nilS stepsL rfl ?_
          obtain rfl := Option.some.inj h
          exact ex_r2 Tb rfl (.cellA 1 rfl rfl rfl rfl rfl) (.tmp rfl) (fun wq hq => ⟨_, rfl, hq.ext, ⟨none, 0, [], rfl, NewC.sel [0] hq rfl⟩⟩)
        · skip
          replace h := bf cc4 h
          refine cw_skip ?_
          refine ex_seq ?_
          refine cw_seq ?_
          refine cw_region ?_
          refine wl_u rfl (ow_y (yh_loadBA Tb (k := 0) rfl rfl rfl rfl rfl rfl) rfl rfl (kk_wl ?_))
          refine wl_u rfl (ow_storeA Tb (k := 2) rfl rfl rfl rfl rfl rfl rfl rfl rfl (kk_wl ?_))
          refine wl_u rfl (ow_y (yh_assign rfl rfl) rfl rfl (kk_wl ?_))
          refine wl_nil ?_
          refine ex_seq ?_
          refine cw_ret ?_
          obtain rfl := Option.some.inj h
          exact ex_r2 Tb rfl (.cellA 0 rfl rfl rfl rfl rfl) (.tmp rfl) (fun wq hq => ⟨_, rfl, hq.ext, ⟨a23, c23, F23, rfl, NewC.sel [2] hq rfl⟩⟩)

def m_spec_DrawFlowChanges (N : Nat) (code : List UInt8) : Option (Flow × List Change) := (m_spec_l91Flow N (code.take 2000) 0).bind fun x16 => (m_spec_l6Rd_pick N (code.take 2000) x16.2 4).bind fun x20 => (bif ltb 0 x20.1 then (m_spec_l92Change N (code.take 2000) x20.2 x16.1).bind fun x28 => (m_spec_FlowChange N x16.1 x28.1).bind fun x32 => (bif x32.2 then (appd ([] : List Change) [x28.1]).bind fun l46 => (bif ltb (0 + 1) x20.1 then (m_spec_l92Change N (code.take 2000) x28.2 x32.1).bind fun x1028 => (m_spec_FlowChange N x32.1 x1028.1).bind fun x1032 => (bif x1032.2 then (appd (([] : List Change) ++ [x28.1]) [x1028.1]).bind fun l1046 => (bif ltb ((0 + 1) + 1) x20.1 then (m_spec_l92Change N (code.take 2000) x1028.2 x1032.1).bind fun x2028 => (m_spec_FlowChange N x1032.1 x2028.1).bind fun x2032 => (bif x2032.2 then (appd ((([] : List Change) ++ [x28.1]) ++ [x1028.1]) [x2028.1]).bind fun l2046 => (bif ltb (((0 + 1) + 1) + 1) x20.1 then none
 else some (x16.1, (((([] : List Change) ++ [x28.1]) ++ [x1028.1]) ++ [x2028.1])))
 else (m_spec_l6Rd_pick N (code.take 2000) x2028.2 8).bind fun x2040 => (bif eqb x2040.1 0 then (appd ((([] : List Change) ++ [x28.1]) ++ [x1028.1]) [x2028.1]).bind fun l2046 => (bif ltb (((0 + 1) + 1) + 1) x20.1 then none
 else some (x16.1, (((([] : List Change) ++ [x28.1]) ++ [x1028.1]) ++ [x2028.1])))
 else (bif ltb (((0 + 1) + 1) + 1) x20.1 then none
 else some (x16.1, ((([] : List Change) ++ [x28.1]) ++ [x1028.1])))))
 else some (x16.1, ((([] : List Change) ++ [x28.1]) ++ [x1028.1])))
 else (m_spec_l6Rd_pick N (code.take 2000) x1028.2 8).bind fun x1040 => (bif eqb x1040.1 0 then (appd (([] : List Change) ++ [x28.1]) [x1028.1]).bind fun l1046 => (bif ltb ((0 + 1) + 1) x20.1 then (m_spec_l92Change N (code.take 2000) x1040.2 x32.1).bind fun x2028 => (m_spec_FlowChange N x32.1 x2028.1).bind fun x2032 => (bif x2032.2 then (appd ((([] : List Change) ++ [x28.1]) ++ [x1028.1]) [x2028.1]).bind fun l2046 => (bif ltb (((0 + 1) + 1) + 1) x20.1 then none
 else some (x16.1, (((([] : List Change) ++ [x28.1]) ++ [x1028.1]) ++ [x2028.1])))
 else (m_spec_l6Rd_pick N (code.take 2000) x2028.2 8).bind fun x2040 => (bif eqb x2040.1 0 then (appd ((([] : List Change) ++ [x28.1]) ++ [x1028.1]) [x2028.1]).bind fun l2046 => (bif ltb (((0 + 1) + 1) + 1) x20.1 then none
 else some (x16.1, (((([] : List Change) ++ [x28.1]) ++ [x1028.1]) ++ [x2028.1])))
 else (bif ltb (((0 + 1) + 1) + 1) x20.1 then none
 else some (x16.1, ((([] : List Change) ++ [x28.1]) ++ [x1028.1])))))
 else some (x16.1, ((([] : List Change) ++ [x28.1]) ++ [x1028.1])))
 else (bif ltb ((0 + 1) + 1) x20.1 then (m_spec_l92Change N (code.take 2000) x1040.2 x32.1).bind fun x2028 => (m_spec_FlowChange N x32.1 x2028.1).bind fun x2032 => (bif x2032.2 then (appd (([] : List Change) ++ [x28.1]) [x2028.1]).bind fun l2046 => (bif ltb (((0 + 1) + 1) + 1) x20.1 then none
 else some (x16.1, ((([] : List Change) ++ [x28.1]) ++ [x2028.1])))
 else (m_spec_l6Rd_pick N (code.take 2000) x2028.2 8).bind fun x2040 => (bif eqb x2040.1 0 then (appd (([] : List Change) ++ [x28.1]) [x2028.1]).bind fun l2046 => (bif ltb (((0 + 1) + 1) + 1) x20.1 then none
 else some (x16.1, ((([] : List Change) ++ [x28.1]) ++ [x2028.1])))
 else (bif ltb (((0 + 1) + 1) + 1) x20.1 then none
 else some (x16.1, (([] : List Change) ++ [x28.1])))))
 else some (x16.1, (([] : List Change) ++ [x28.1])))))
 else some (x16.1, (([] : List Change) ++ [x28.1])))
 else (m_spec_l6Rd_pick N (code.take 2000) x28.2 8).bind fun x40 => (bif eqb x40.1 0 then (appd ([] : List Change) [x28.1]).bind fun l46 => (bif ltb (0 + 1) x20.1 then (m_spec_l92Change N (code.take 2000) x40.2 x16.1).bind fun x1028 => (m_spec_FlowChange N x16.1 x1028.1).bind fun x1032 => (bif x1032.2 then (appd (([] : List Change) ++ [x28.1]) [x1028.1]).bind fun l1046 => (bif ltb ((0 + 1) + 1) x20.1 then (m_spec_l92Change N (code.take 2000) x1028.2 x1032.1).bind fun x2028 => (m_spec_FlowChange N x1032.1 x2028.1).bind fun x2032 => (bif x2032.2 then (appd ((([] : List Change) ++ [x28.1]) ++ [x1028.1]) [x2028.1]).bind fun l2046 => (bif ltb (((0 + 1) + 1) + 1) x20.1 then none
 else some (x16.1, (((([] : List Change) ++ [x28.1]) ++ [x1028.1]) ++ [x2028.1])))
 else (m_spec_l6Rd_pick N (code.take 2000) x2028.2 8).bind fun x2040 => (bif eqb x2040.1 0 then (appd ((([] : List Change) ++ [x28.1]) ++ [x1028.1]) [x2028.1]).bind fun l2046 => (bif ltb (((0 + 1) + 1) + 1) x20.1 then none
 else some (x16.1, (((([] : List Change) ++ [x28.1]) ++ [x1028.1]) ++ [x2028.1])))
 else (bif ltb (((0 + 1) + 1) + 1) x20.1 then none
 else some (x16.1, ((([] : List Change) ++ [x28.1]) ++ [x1028.1])))))
 else some (x16.1, ((([] : List Change) ++ [x28.1]) ++ [x1028.1])))
 else (m_spec_l6Rd_pick N (code.take 2000) x1028.2 8).bind fun x1040 => (bif eqb x1040.1 0 then (appd (([] : List Change) ++ [x28.1]) [x1028.1]).bind fun l1046 => (bif ltb ((0 + 1) + 1) x20.1 then (m_spec_l92Change N (code.take 2000) x1040.2 x16.1).bind fun x2028 => (m_spec_FlowChange N x16.1 x2028.1).bind fun x2032 => (bif x2032.2 then (appd ((([] : List Change) ++ [x28.1]) ++ [x1028.1]) [x2028.1]).bind fun l2046 => (bif ltb (((0 + 1) + 1) + 1) x20.1 then none
 else some (x16.1, (((([] : List Change) ++ [x28.1]) ++ [x1028.1]) ++ [x2028.1])))
 else (m_spec_l6Rd_pick N (code.take 2000) x2028.2 8).bind fun x2040 => (bif eqb x2040.1 0 then (appd ((([] : List Change) ++ [x28.1]) ++ [x1028.1]) [x2028.1]).bind fun l2046 => (bif ltb (((0 + 1) + 1) + 1) x20.1 then none
 else some (x16.1, (((([] : List Change) ++ [x28.1]) ++ [x1028.1]) ++ [x2028.1])))
 else (bif ltb (((0 + 1) + 1) + 1) x20.1 then none
 else some (x16.1, ((([] : List Change) ++ [x28.1]) ++ [x1028.1])))))
 else some (x16.1, ((([] : List Change) ++ [x28.1]) ++ [x1028.1])))
 else (bif ltb ((0 + 1) + 1) x20.1 then (m_spec_l92Change N (code.take 2000) x1040.2 x16.1).bind fun x2028 => (m_spec_FlowChange N x16.1 x2028.1).bind fun x2032 => (bif x2032.2 then (appd (([] : List Change) ++ [x28.1]) [x2028.1]).bind fun l2046 => (bif ltb (((0 + 1) + 1) + 1) x20.1 then none
 else some (x16.1, ((([] : List Change) ++ [x28.1]) ++ [x2028.1])))
 else (m_spec_l6Rd_pick N (code.take 2000) x2028.2 8).bind fun x2040 => (bif eqb x2040.1 0 then (appd (([] : List Change) ++ [x28.1]) [x2028.1]).bind fun l2046 => (bif ltb (((0 + 1) + 1) + 1) x20.1 then none
 else some (x16.1, ((([] : List Change) ++ [x28.1]) ++ [x2028.1])))
 else (bif ltb (((0 + 1) + 1) + 1) x20.1 then none
 else some (x16.1, (([] : List Change) ++ [x28.1])))))
 else some (x16.1, (([] : List Change) ++ [x28.1])))))
 else some (x16.1, (([] : List Change) ++ [x28.1])))
 else (bif ltb (0 + 1) x20.1 then (m_spec_l92Change N (code.take 2000) x40.2 x16.1).bind fun x1028 => (m_spec_FlowChange N x16.1 x1028.1).bind fun x1032 => (bif x1032.2 then (appd ([] : List Change) [x1028.1]).bind fun l1046 => (bif ltb ((0 + 1) + 1) x20.1 then (m_spec_l92Change N (code.take 2000) x1028.2 x1032.1).bind fun x2028 => (m_spec_FlowChange N x1032.1 x2028.1).bind fun x2032 => (bif x2032.2 then (appd (([] : List Change) ++ [x1028.1]) [x2028.1]).bind fun l2046 => (bif ltb (((0 + 1) + 1) + 1) x20.1 then none
 else some (x16.1, ((([] : List Change) ++ [x1028.1]) ++ [x2028.1])))
 else (m_spec_l6Rd_pick N (code.take 2000) x2028.2 8).bind fun x2040 => (bif eqb x2040.1 0 then (appd (([] : List Change) ++ [x1028.1]) [x2028.1]).bind fun l2046 => (bif ltb (((0 + 1) + 1) + 1) x20.1 then none
 else some (x16.1, ((([] : List Change) ++ [x1028.1]) ++ [x2028.1])))
 else (bif ltb (((0 + 1) + 1) + 1) x20.1 then none
 else some (x16.1, (([] : List Change) ++ [x1028.1])))))
 else some (x16.1, (([] : List Change) ++ [x1028.1])))
 else (m_spec_l6Rd_pick N (code.take 2000) x1028.2 8).bind fun x1040 => (bif eqb x1040.1 0 then (appd ([] : List Change) [x1028.1]).bind fun l1046 => (bif ltb ((0 + 1) + 1) x20.1 then (m_spec_l92Change N (code.take 2000) x1040.2 x16.1).bind fun x2028 => (m_spec_FlowChange N x16.1 x2028.1).bind fun x2032 => (bif x2032.2 then (appd (([] : List Change) ++ [x1028.1]) [x2028.1]).bind fun l2046 => (bif ltb (((0 + 1) + 1) + 1) x20.1 then none
 else some (x16.1, ((([] : List Change) ++ [x1028.1]) ++ [x2028.1])))
 else (m_spec_l6Rd_pick N (code.take 2000) x2028.2 8).bind fun x2040 => (bif eqb x2040.1 0 then (appd (([] : List Change) ++ [x1028.1]) [x2028.1]).bind fun l2046 => (bif ltb (((0 + 1) + 1) + 1) x20.1 then none
 else some (x16.1, ((([] : List Change) ++ [x1028.1]) ++ [x2028.1])))
 else (bif ltb (((0 + 1) + 1) + 1) x20.1 then none
 else some (x16.1, (([] : List Change) ++ [x1028.1])))))
 else some (x16.1, (([] : List Change) ++ [x1028.1])))
 else (bif ltb ((0 + 1) + 1) x20.1 then (m_spec_l92Change N (code.take 2000) x1040.2 x16.1).bind fun x2028 => (m_spec_FlowChange N x16.1 x2028.1).bind fun x2032 => (bif x2032.2 then (appd ([] : List Change) [x2028.1]).bind fun l2046 => (bif ltb (((0 + 1) + 1) + 1) x20.1 then none
 else some (x16.1, (([] : List Change) ++ [x2028.1])))
 else (m_spec_l6Rd_pick N (code.take 2000) x2028.2 8).bind fun x2040 => (bif eqb x2040.1 0 then (appd ([] : List Change) [x2028.1]).bind fun l2046 => (bif ltb (((0 + 1) + 1) + 1) x20.1 then none
 else some (x16.1, (([] : List Change) ++ [x2028.1])))
 else (bif ltb (((0 + 1) + 1) + 1) x20.1 then none
 else some (x16.1, ([] : List Change)))))
 else some (x16.1, ([] : List Change)))))
 else some (x16.1, ([] : List Change)))))
 else some (x16.1, ([] : List Change)))

set_option maxHeartbeats 4000000 in
theorem c_spec_DrawFlowChanges (N : Nat) (code : List UInt8) (res : Flow × List Change) (h : m_spec_DrawFlowChanges N code = some res) (w : World) {a_code : Option Addr} {c_code : Nat} (h_code : bytesL.rd w [] [.slice a_code code.length c_code] code) : Ret Try.prog 16 [.slice a_code code.length c_code] w [] fun v w' => ∃ a1 c1 F1 a2 c2 F2, v = .tuple #[.agg #[.int .i64 res.1.ver, .slice a1 res.1.steps.length c1], .slice a2 res.2.length c2] ∧ NewC w w' [owC stepsL F1 [.slice a1 res.1.steps.length c1] res.1.steps, owC changesL F2 [.slice a2 res.2.length c2] res.2] := by
  have mh_code := rd_max h_code
  unfold m_spec_DrawFlowChanges at h
  refine ret_enter Try.func16 rfl Try.ntmps16 rfl (Hp.refl w _) ?_
  refine cw_seq ?_
  refine cw_region ?_
  refine wl_u rfl (ow_allocA Tb rfl rfl rfl rfl (fun g2 => kk_wl ?_))
  refine wl_u rfl (ow_y (yh_assign rfl rfl) rfl rfl (kk_wl ?_))
  refine wl_nil ?_
  refine ex_seq ?_
  refine cw_seq ?_
  refine cw_region ?_
  refine wl_u rfl (ow_y (yh_move rfl rfl) rfl rfl (kk_wl ?_))
  have hf14 := take_fact h_code 2000
  refine wl_u rfl (ow_open rfl rfl (fun w hw => Lay.at_ h_code hw) rfl rfl (fun g14 => kk_wl ?_))
  refine wl_u rfl (ow_y (yh_assign rfl rfl) rfl rfl (kk_wl ?_))
  refine wl_nil ?_
  refine ex_seq ?_
  refine cw_seq ?_
  refine cw_region ?_
  refine wl_u rfl (ow_y (yh_move rfl rfl) rfl rfl (kk_wl ?_))
  obtain ⟨x16, hx16, h⟩ := bd h
  refine wl_u rfl (ow_cM1 0 rfl hb26 rfl rfl (fun w hw => c_spec_l91Flow N _ _ _ hx16 w (hw.at (i := 0) rfl) (Lay.atR (i := 0) hf14 rfl hw)) rfl rfl (fun a16 c16 F16 => kk_wl ?_))
  refine wl_u rfl (ow_allocA Tb rfl rfl rfl rfl (fun g5 => kk_wl ?_))
  refine wl_u rfl (ow_storeA Tb (k := 0) rfl rfl rfl rfl rfl rfl rfl rfl rfl (kk_wl ?_))
  refine wl_nil ?_
  refine ex_seq ?_
  refine cw_seq ?_
  refine cw_region ?_
  refine wl_u rfl (ow_lit0 Tb rfl rfl rfl rfl rfl rfl (fun g17 => kk_chg (c' := owC changesL [g17] [.slice (some ⟨g17, 0, none⟩) 0 0] ([] : List Change)) 0 rfl (fun w hA => own_changesL ([] : List Change) hA rfl (by simp [maxLen])) rfl (kk_wl ?_)))
  refine wl_u rfl (ow_y (yh_assign rfl rfl) rfl rfl (kk_wl ?_))
  refine wl_nil ?_
  refine ex_seq ?_
  refine cw_seq ?_
  refine cw_region ?_
  refine wl_u rfl (ow_y (yh_loadBA Tb (k := 1) rfl rfl rfl rfl rfl rfl) rfl rfl (kk_wl ?_))
  refine wl_u rfl (ow_allocA Tb rfl rfl rfl rfl (fun g7 => kk_wl ?_))
  refine wl_u rfl (ow_storeA Tb (k := 0) rfl rfl rfl rfl rfl rfl rfl rfl rfl (kk_wl ?_))
  refine wl_nil ?_
  refine ex_seq ?_
  refine cw_seq ?_
  refine cw_region ?_
  refine wl_u rfl (ow_y (yh_move rfl rfl) rfl rfl (kk_wl ?_))
  obtain ⟨x20, hx20, h⟩ := bd h
  have mp20 := pick_lt hx20 (by decide)
  refine wl_u rfl (ow_cM0 4 rfl hb45 rfl rfl (fun w hw => c_spec_l6Rd_pick N _ _ _ _ hx20 w (hw.at (i := 4) rfl) (Lay.atR (i := 4) hf14 rfl hw)) rfl rfl (kk_wl ?_))
  refine wl_u rfl (ow_y (yh_assign rfl rfl) rfl rfl (kk_wl ?_))
  refine wl_nil ?_
  refine ex_seq ?_
  refine cw_seq ?_
  refine cw_seq ?_
  refine cw_region ?_
  refine wl_u rfl (ow_y (yh_assign rfl rfl) rfl rfl (kk_wl ?_))
  refine wl_nil ?_
  refine ex_seq ?_
  refine cw_block ?_
  refine cw_unroll 3 ?_
  refine cw_seq ?_
  refine cw_seq ?_
  refine cw_region ?_
  refine wl_u rfl (ow_y (yh_move rfl rfl) rfl rfl (kk_wl ?_))
  refine wl_u rfl (ow_y (yh_move rfl rfl) rfl rfl (kk_wl ?_))
  refine wl_u rfl (ow_y (yh_cmpI rfl rfl rfl rfl) rfl rfl (kk_wl ?_))
  refine wl_nil ?_
  refine ex_seq ?_
  refine cw_split rfl (fun cc1 => ?_) (fun cc1 => ?_)
  · skip
    replace h := bt cc1 h
    have q1 := ltb_true.1 cc1
    refine cw_skip ?_
    refine ex_seq ?_
    refine cw_seq ?_
    refine cw_block ?_
    refine cw_seq ?_
    refine cw_region ?_
    refine wl_u rfl (ow_y (yh_move rfl rfl) rfl rfl (kk_wl ?_))
    refine wl_u rfl (ow_y (yh_loadBA Tb (k := 1) rfl rfl rfl rfl rfl rfl) rfl rfl (kk_wl ?_))
    obtain ⟨x28, hx28, h⟩ := bd h
    refine wl_u rfl (ow_cM1 0 rfl hb27 rfl rfl (fun w hw => c_spec_l92Change N _ _ _ _ hx28 w (hw.at (i := 0) rfl) (Lay.atR (i := 0) hf14 rfl hw) (rdoR (A := stepsL) 4 0 rfl rfl rfl hw)) rfl rfl (fun a28 c28 F28 => kk_wl ?_))
    refine wl_u rfl (ow_allocA Tb rfl rfl rfl rfl (fun g10 => kk_wl ?_))
    refine wl_u rfl (ow_storeA Tb (k := 0) rfl rfl rfl rfl rfl rfl rfl rfl rfl (kk_wl ?_))
    refine wl_nil ?_
    refine ex_seq ?_
    refine cw_seq ?_
    refine cw_region ?_
    refine wl_u rfl (ow_y (yh_loadBA Tb (k := 3) rfl rfl rfl rfl rfl rfl) rfl rfl (kk_wl ?_))
    refine wl_u rfl (ow_y (yh_loadBA Tb (k := 0) rfl rfl rfl rfl rfl rfl) rfl rfl (kk_wl ?_))
    obtain ⟨x32, hx32, h⟩ := bd h
    refine wl_u rfl (ow_cN1 rfl hb9 rfl (fun w hw => c_spec_FlowChange N _ _ _ hx32 w (rdo (A := stepsL) 6 rfl hw) (rdo (A := strsL) 1 rfl hw)) rfl rfl (fun a32 c32 F32 => kk_wl ?_))
    refine wl_u rfl (ow_y (yh_move rfl rfl) rfl rfl (kk_wl ?_))
    refine wl_u rfl (ow_y (yh_extract rfl rfl rfl) rfl rfl (kk_wl ?_))
    refine wl_u rfl (ow_y (yh_extract rfl rfl rfl) rfl rfl (kk_wl ?_))
    refine wl_u rfl (ow_allocA Tb rfl rfl rfl rfl (fun g11 => kk_wl ?_))
    refine wl_u rfl (ow_storeA Tb (k := 0) rfl rfl rfl rfl rfl rfl rfl rfl rfl (kk_wl ?_))
    refine wl_u rfl (ow_y (yh_assign rfl rfl) rfl rfl (kk_wl ?_))
    refine wl_nil ?_
    refine ex_seq ?_
    refine cw_seq ?_
    refine cw_seq ?_
    refine cw_region ?_
    refine wl_u rfl (ow_y (yh_move rfl rfl) rfl rfl (kk_wl ?_))
    refine wl_nil ?_
    refine ex_seq ?_
    refine cw_split rfl (fun cc2 => ?_) (fun cc2 => ?_)
    · skip
      replace h := bt cc2 h
      refine cw_region ?_
      refine wl_u rfl (ow_y (yh_loadBA Tb (k := 0) rfl rfl rfl rfl rfl rfl) rfl rfl (kk_wl ?_))
      refine wl_u rfl (ow_storeA Tb (k := 5) rfl rfl rfl rfl rfl rfl rfl rfl rfl (kk_wl ?_))
      refine wl_nil ?_
      refine ex_seq ?_
      refine cw_seq ?_
      refine cw_region ?_
      refine wl_u rfl (ow_y (yh_move rfl rfl) rfl rfl (kk_wl ?_))
      refine wl_u rfl (ow_y (yh_move rfl rfl) rfl rfl (kk_wl ?_))
      refine wl_s rfl rfl (fun _ => ?_) (fun hc => Bool.noConfusion (cc2.symm.trans hc))
      refine wl_n rfl rfl rfl rfl ?_
      refine wl_n rfl rfl rfl rfl ?_
      refine wl_n rfl rfl rfl rfl ?_
      refine wl_u rfl (ow_y (yh_pickT rfl rfl rfl) rfl rfl (kk_wl ?_))
      refine wl_nil ?_
      refine ex_seq ?_
      refine cw_true rfl ?_
      refine cw_region ?_
      refine wl_u rfl (ow_y (yh_move rfl rfl) rfl rfl (kk_wl ?_))
      refine wl_u rfl (ow_y (yh_loadBA Tb (k := 3) rfl rfl rfl rfl rfl rfl) rfl rfl (kk_wl ?_))
      refine wl_u rfl (ow_litA Tb rfl rfl rfl rfl rfl rfl (by decide) rfl rfl (fun g45 => kk_wl ?_))
      obtain ⟨hll46, h⟩ := bd_appd h
      refine wl_u rfl (ow_chg (c' := owC changeL F28 [.int .i64 x28.1.kind, .string x28.1.step.name, .slice a28 x28.1.step.after.length c28, .bool x28.1.step.undo] x28.1) 5 rfl (fun w hA => changeL_mk x28.1 hA) rfl (ow_appE Tb (i := 7) (j := 0) (k := 1) rfl rfl rfl rfl rfl rfl rfl rfl rfl rfl rfl (app1 hll46) (by decide) rfl rfl (fun a46 c46 F46 => kk_wl ?_)))
      refine wl_u rfl (ow_y (yh_assign rfl rfl) rfl rfl (kk_wl ?_))
      refine wl_nil ?_
      refine ex_block_normal ?_
      refine ex_seq ?_
      refine cw_region ?_
      refine wl_u rfl (ow_y (yh_move rfl rfl) rfl rfl (kk_wl ?_))
      refine wl_u rfl (ow_y (yh_arI rfl rfl rfl rfl (by omega)) rfl rfl (kk_wl ?_))
      refine wl_u rfl (ow_y (yh_assign rfl rfl) rfl rfl (kk_wl ?_))
      refine wl_nil ?_
      refine ex_unroll ?_
      refine cw_seq ?_
      refine cw_seq ?_
      refine cw_region ?_
      refine wl_u rfl (ow_y (yh_move rfl rfl) rfl rfl (kk_wl ?_))
      refine wl_u rfl (ow_y (yh_move rfl rfl) rfl rfl (kk_wl ?_))
      refine wl_u rfl (ow_y (yh_cmpI rfl rfl rfl rfl) rfl rfl (kk_wl ?_))
      refine wl_nil ?_
      refine ex_seq ?_
      refine cw_split rfl (fun cc3 => ?_) (fun cc3 => ?_)
      · skip
        replace h := bt cc3 h
        have q2 := ltb_true.1 cc3
        refine cw_skip ?_
        refine ex_seq ?_
        refine cw_seq ?_
        refine cw_block ?_
        refine cw_seq ?_
        refine cw_region ?_
        refine wl_u rfl (ow_y (yh_move rfl rfl) rfl rfl (kk_wl ?_))
        refine wl_u rfl (ow_y (yh_loadBA Tb (k := 2) rfl rfl rfl rfl rfl rfl) rfl rfl (kk_wl ?_))
        obtain ⟨x1028, hx1028, h⟩ := bd h
        refine wl_u rfl (ow_cM1 6 rfl hb27 rfl rfl (fun w hw => c_spec_l92Change N _ _ _ _ hx1028 w (hw.at (i := 6) rfl) (Lay.atR (i := 6) hf14 rfl hw) (rdoR (A := stepsL) 4 6 rfl rfl rfl hw)) rfl rfl (fun a1028 c1028 F1028 => kk_wl ?_))
        refine wl_u rfl (ow_allocA Tb rfl rfl rfl rfl (fun g1010 => kk_wl ?_))
        refine wl_u rfl (ow_storeA Tb (k := 0) rfl rfl rfl rfl rfl rfl rfl rfl rfl (kk_wl ?_))
        refine wl_nil ?_
        refine ex_seq ?_
        refine cw_seq ?_
        refine cw_region ?_
        refine wl_u rfl (ow_y (yh_loadBA Tb (k := 5) rfl rfl rfl rfl rfl rfl) rfl rfl (kk_wl ?_))
        refine wl_u rfl (ow_y (yh_loadBA Tb (k := 0) rfl rfl rfl rfl rfl rfl) rfl rfl (kk_wl ?_))
        obtain ⟨x1032, hx1032, h⟩ := bd h
        refine wl_u rfl (ow_cN1 rfl hb9 rfl (fun w hw => c_spec_FlowChange N _ _ _ hx1032 w (rdo (A := stepsL) 7 rfl hw) (rdo (A := strsL) 1 rfl hw)) rfl rfl (fun a1032 c1032 F1032 => kk_wl ?_))
        refine wl_u rfl (ow_y (yh_move rfl rfl) rfl rfl (kk_wl ?_))
        refine wl_u rfl (ow_y (yh_extract rfl rfl rfl) rfl rfl (kk_wl ?_))
        refine wl_u rfl (ow_y (yh_extract rfl rfl rfl) rfl rfl (kk_wl ?_))
        refine wl_u rfl (ow_allocA Tb rfl rfl rfl rfl (fun g1011 => kk_wl ?_))
        refine wl_u rfl (ow_storeA Tb (k := 0) rfl rfl rfl rfl rfl rfl rfl rfl rfl (kk_wl ?_))
        refine wl_u rfl (ow_y (yh_assign rfl rfl) rfl rfl (kk_wl ?_))
        refine wl_nil ?_
        refine ex_seq ?_
        refine cw_seq ?_
        refine cw_seq ?_
        refine cw_region ?_
        refine wl_u rfl (ow_y (yh_move rfl rfl) rfl rfl (kk_wl ?_))
        refine wl_nil ?_
        refine ex_seq ?_
        refine cw_split rfl (fun cc4 => ?_) (fun cc4 => ?_)
        · skip
          replace h := bt cc4 h
          refine cw_region ?_
          refine wl_u rfl (ow_y (yh_loadBA Tb (k := 0) rfl rfl rfl rfl rfl rfl) rfl rfl (kk_wl ?_))
          refine wl_u rfl (ow_storeA Tb (k := 7) rfl rfl rfl rfl rfl rfl rfl rfl rfl (kk_wl ?_))
          refine wl_nil ?_
          refine ex_seq ?_
          refine cw_seq ?_
          refine cw_region ?_
          refine wl_u rfl (ow_y (yh_move rfl rfl) rfl rfl (kk_wl ?_))
          refine wl_u rfl (ow_y (yh_move rfl rfl) rfl rfl (kk_wl ?_))
          refine wl_s rfl rfl (fun _ => ?_) (fun hc => Bool.noConfusion (cc4.symm.trans hc))
          refine wl_n rfl rfl rfl rfl ?_
          refine wl_n rfl rfl rfl rfl ?_
          refine wl_n rfl rfl rfl rfl ?_
          refine wl_u rfl (ow_y (yh_pickT rfl rfl rfl) rfl rfl (kk_wl ?_))
          refine wl_nil ?_
          refine ex_seq ?_
          refine cw_true rfl ?_
          refine cw_region ?_
          refine wl_u rfl (ow_y (yh_move rfl rfl) rfl rfl (kk_wl ?_))
          refine wl_u rfl (ow_y (yh_loadBA Tb (k := 3) rfl rfl rfl rfl rfl rfl) rfl rfl (kk_wl ?_))
          refine wl_u rfl (ow_litA Tb rfl rfl rfl rfl rfl rfl (by decide) rfl rfl (fun g1045 => kk_wl ?_))
          obtain ⟨hll1046, h⟩ := bd_appd h
          refine wl_u rfl (ow_chg (c' := owC changeL F1028 [.int .i64 x1028.1.kind, .string x1028.1.step.name, .slice a1028 x1028.1.step.after.length c1028, .bool x1028.1.step.undo] x1028.1) 5 rfl (fun w hA => changeL_mk x1028.1 hA) rfl (ow_appE Tb (i := 7) (j := 0) (k := 1) rfl rfl rfl rfl rfl rfl rfl rfl rfl rfl rfl (app1 hll1046) (by decide) rfl rfl (fun a1046 c1046 F1046 => kk_wl ?_)))
          refine wl_u rfl (ow_y (yh_assign rfl rfl) rfl rfl (kk_wl ?_))
          refine wl_nil ?_
          refine ex_block_normal ?_
          refine ex_seq ?_
          refine cw_region ?_
          refine wl_u rfl (ow_y (yh_move rfl rfl) rfl rfl (kk_wl ?_))
          refine wl_u rfl (ow_y (yh_arI rfl rfl rfl rfl (by omega)) rfl rfl (kk_wl ?_))
          refine wl_u rfl (ow_y (yh_assign rfl rfl) rfl rfl (kk_wl ?_))
          refine wl_nil ?_
          refine ex_unroll ?_
          refine cw_seq ?_
          refine cw_seq ?_
          refine cw_region ?_
          refine wl_u rfl (ow_y (yh_move rfl rfl) rfl rfl (kk_wl ?_))
          refine wl_u rfl (ow_y (yh_move rfl rfl) rfl rfl (kk_wl ?_))
          refine wl_u rfl (ow_y (yh_cmpI rfl rfl rfl rfl) rfl rfl (kk_wl ?_))
          refine wl_nil ?_
          refine ex_seq ?_
          refine cw_split rfl (fun cc5 => ?_) (fun cc5 => ?_)
          · skip
            replace h := bt cc5 h
            have q3 := ltb_true.1 cc5
            refine cw_skip ?_
            refine ex_seq ?_
            refine cw_seq ?_
            refine cw_block ?_
            refine cw_seq ?_
            refine cw_region ?_
            refine wl_u rfl (ow_y (yh_move rfl rfl) rfl rfl (kk_wl ?_))
            refine wl_u rfl (ow_y (yh_loadBA Tb (k := 2) rfl rfl rfl rfl rfl rfl) rfl rfl (kk_wl ?_))
            obtain ⟨x2028, hx2028, h⟩ := bd h
            refine wl_u rfl (ow_cM1 6 rfl hb27 rfl rfl (fun w hw => c_spec_l92Change N _ _ _ _ hx2028 w (hw.at (i := 6) rfl) (Lay.atR (i := 6) hf14 rfl hw) (rdoR (A := stepsL) 4 6 rfl rfl rfl hw)) rfl rfl (fun a2028 c2028 F2028 => kk_wl ?_))
            refine wl_u rfl (ow_allocA Tb rfl rfl rfl rfl (fun g2010 => kk_wl ?_))
            refine wl_u rfl (ow_storeA Tb (k := 0) rfl rfl rfl rfl rfl rfl rfl rfl rfl (kk_wl ?_))
            refine wl_nil ?_
            refine ex_seq ?_
            refine cw_seq ?_
            refine cw_region ?_
            refine wl_u rfl (ow_y (yh_loadBA Tb (k := 5) rfl rfl rfl rfl rfl rfl) rfl rfl (kk_wl ?_))
            refine wl_u rfl (ow_y (yh_loadBA Tb (k := 0) rfl rfl rfl rfl rfl rfl) rfl rfl (kk_wl ?_))
            obtain ⟨x2032, hx2032, h⟩ := bd h
            refine wl_u rfl (ow_cN1 rfl hb9 rfl (fun w hw => c_spec_FlowChange N _ _ _ hx2032 w (rdo (A := stepsL) 7 rfl hw) (rdo (A := strsL) 1 rfl hw)) rfl rfl (fun a2032 c2032 F2032 => kk_wl ?_))
            refine wl_u rfl (ow_y (yh_move rfl rfl) rfl rfl (kk_wl ?_))
            refine wl_u rfl (ow_y (yh_extract rfl rfl rfl) rfl rfl (kk_wl ?_))
            refine wl_u rfl (ow_y (yh_extract rfl rfl rfl) rfl rfl (kk_wl ?_))
            refine wl_u rfl (ow_allocA Tb rfl rfl rfl rfl (fun g2011 => kk_wl ?_))
            refine wl_u rfl (ow_storeA Tb (k := 0) rfl rfl rfl rfl rfl rfl rfl rfl rfl (kk_wl ?_))
            refine wl_u rfl (ow_y (yh_assign rfl rfl) rfl rfl (kk_wl ?_))
            refine wl_nil ?_
            refine ex_seq ?_
            refine cw_seq ?_
            refine cw_seq ?_
            refine cw_region ?_
            refine wl_u rfl (ow_y (yh_move rfl rfl) rfl rfl (kk_wl ?_))
            refine wl_nil ?_
            refine ex_seq ?_
            refine cw_split rfl (fun cc6 => ?_) (fun cc6 => ?_)
            · skip
              replace h := bt cc6 h
              refine cw_region ?_
              refine wl_u rfl (ow_y (yh_loadBA Tb (k := 0) rfl rfl rfl rfl rfl rfl) rfl rfl (kk_wl ?_))
              refine wl_u rfl (ow_storeA Tb (k := 7) rfl rfl rfl rfl rfl rfl rfl rfl rfl (kk_wl ?_))
              refine wl_nil ?_
              refine ex_seq ?_
              refine cw_seq ?_
              refine cw_region ?_
              refine wl_u rfl (ow_y (yh_move rfl rfl) rfl rfl (kk_wl ?_))
              refine wl_u rfl (ow_y (yh_move rfl rfl) rfl rfl (kk_wl ?_))
              refine wl_s rfl rfl (fun _ => ?_) (fun hc => Bool.noConfusion (cc6.symm.trans hc))
              refine wl_n rfl rfl rfl rfl ?_
              refine wl_n rfl rfl rfl rfl ?_
              refine wl_n rfl rfl rfl rfl ?_
              refine wl_u rfl (ow_y (yh_pickT rfl rfl rfl) rfl rfl (kk_wl ?_))
              refine wl_nil ?_
              refine ex_seq ?_
              refine cw_true rfl ?_
              refine cw_region ?_
              refine wl_u rfl (ow_y (yh_move rfl rfl) rfl rfl (kk_wl ?_))
              refine wl_u rfl (ow_y (yh_loadBA Tb (k := 3) rfl rfl rfl rfl rfl rfl) rfl rfl (kk_wl ?_))
              refine wl_u rfl (ow_litA Tb rfl rfl rfl rfl rfl rfl (by decide) rfl rfl (fun g2045 => kk_wl ?_))
              obtain ⟨hll2046, h⟩ := bd_appd h
              refine wl_u rfl (ow_chg (c' := owC changeL F2028 [.int .i64 x2028.1.kind, .string x2028.1.step.name, .slice a2028 x2028.1.step.after.length c2028, .bool x2028.1.step.undo] x2028.1) 5 rfl (fun w hA => changeL_mk x2028.1 hA) rfl (ow_appE Tb (i := 7) (j := 0) (k := 1) rfl rfl rfl rfl rfl rfl rfl rfl rfl rfl rfl (app1 hll2046) (by decide) rfl rfl (fun a2046 c2046 F2046 => kk_wl ?_)))
              refine wl_u rfl (ow_y (yh_assign rfl rfl) rfl rfl (kk_wl ?_))
              refine wl_nil ?_
              refine ex_block_normal ?_
              refine ex_seq ?_
              refine cw_region ?_
              refine wl_u rfl (ow_y (yh_move rfl rfl) rfl rfl (kk_wl ?_))
              refine wl_u rfl (ow_y (yh_arI rfl rfl rfl rfl (by omega)) rfl rfl (kk_wl ?_))
              refine wl_u rfl (ow_y (yh_assign rfl rfl) rfl rfl (kk_wl ?_))
              refine wl_nil ?_
              refine ex_unroll ?_
              refine cw_seq ?_
              refine cw_seq ?_
              refine cw_region ?_
              refine wl_u rfl (ow_y (yh_move rfl rfl) rfl rfl (kk_wl ?_))
              refine wl_u rfl (ow_y (yh_move rfl rfl) rfl rfl (kk_wl ?_))
              refine wl_u rfl (ow_y (yh_cmpI rfl rfl rfl rfl) rfl rfl (kk_wl ?_))
              refine wl_nil ?_
              refine ex_seq ?_
              refine cw_split rfl (fun cc7 => ?_) (fun cc7 => ?_)
              · skip
                replace h := bt cc7 h
                exact nosome h
              · skip
                replace h := bf cc7 h
                have q5 := ltb_false.1 cc7
                refine cw_exit ?_
                refine ex_then_exit ?_
                refine ex_then_exit ?_
                refine ex_block_exit ?_
                refine ex_seq ?_
                refine cw_seq ?_
                refine cw_region ?_
                refine wl_u rfl (ow_y (yh_loadBA Tb (k := 15) rfl rfl rfl rfl rfl rfl) rfl rfl (kk_wl ?_))
                refine wl_u rfl (ow_y (yh_move rfl rfl) rfl rfl (kk_wl ?_))
                refine wl_u rfl (ow_storeA Tb (k := 17) rfl rfl rfl rfl rfl rfl rfl rfl rfl (kk_wl ?_))
                refine wl_u rfl (ow_y (yh_assign rfl rfl) rfl rfl (kk_wl ?_))
                refine wl_nil ?_
                refine ex_seq ?_
                refine cw_ret ?_
                obtain rfl := Option.some.inj h
                exact ex_r2 Tb rfl (.cellA 0 rfl rfl rfl rfl rfl) (.tmp rfl) (fun wq hq => ⟨_, rfl, hq.ext, ⟨a16, c16, F16, a2046, c2046, F2046, rfl, NewC.sel [17, 1] hq rfl⟩⟩)
            · skip
              replace h := bf cc6 h
              refine cw_skip ?_
              refine ex_seq ?_
              refine cw_seq ?_
              refine cw_region ?_
              refine wl_u rfl (ow_y (yh_move rfl rfl) rfl rfl (kk_wl ?_))
              refine wl_u rfl (ow_y (yh_move rfl rfl) rfl rfl (kk_wl ?_))
              refine wl_s rfl rfl (fun hc => Bool.noConfusion (cc6.symm.trans hc)) (fun _ => ?_)
              refine wl_g rfl rfl (ow_y (yh_move rfl rfl) rfl rfl (kk_wl ?_))
              obtain ⟨x2040, hx2040, h⟩ := bd h
              have mp2040 := pick_lt hx2040 (by decide)
              refine wl_g rfl rfl (ow_cM0 4 rfl hb45 rfl rfl (fun w hw => c_spec_l6Rd_pick N _ _ _ _ hx2040 w (hw.at (i := 4) rfl) (Lay.atR (i := 4) hf14 rfl hw)) rfl rfl (kk_wl ?_))
              refine wl_g rfl rfl (ow_y (yh_cmpI rfl rfl rfl rfl) rfl rfl (kk_wl ?_))
              refine wl_u rfl (ow_y (yh_pickF rfl rfl rfl) rfl rfl (kk_wl ?_))
              refine wl_nil ?_
              refine ex_seq ?_
              refine cw_split rfl (fun cc8 => ?_) (fun cc8 => ?_)
              · skip
                replace h := bt cc8 h
                have q6 := eqb_true.1 cc8
                refine cw_region ?_
                refine wl_u rfl (ow_y (yh_move rfl rfl) rfl rfl (kk_wl ?_))
                refine wl_u rfl (ow_y (yh_loadBA Tb (k := 3) rfl rfl rfl rfl rfl rfl) rfl rfl (kk_wl ?_))
                refine wl_u rfl (ow_litA Tb rfl rfl rfl rfl rfl rfl (by decide) rfl rfl (fun g2045 => kk_wl ?_))
                obtain ⟨hll2046, h⟩ := bd_appd h
                refine wl_u rfl (ow_chg (c' := owC changeL F2028 [.int .i64 x2028.1.kind, .string x2028.1.step.name, .slice a2028 x2028.1.step.after.length c2028, .bool x2028.1.step.undo] x2028.1) 5 rfl (fun w hA => changeL_mk x2028.1 hA) rfl (ow_appE Tb (i := 6) (j := 0) (k := 1) rfl rfl rfl rfl rfl rfl rfl rfl rfl rfl rfl (app1 hll2046) (by decide) rfl rfl (fun a2046 c2046 F2046 => kk_wl ?_)))
                refine wl_u rfl (ow_y (yh_assign rfl rfl) rfl rfl (kk_wl ?_))
                refine wl_nil ?_
                refine ex_block_normal ?_
                refine ex_seq ?_
                refine cw_region ?_
                refine wl_u rfl (ow_y (yh_move rfl rfl) rfl rfl (kk_wl ?_))
                refine wl_u rfl (ow_y (yh_arI rfl rfl rfl rfl (by omega)) rfl rfl (kk_wl ?_))
                refine wl_u rfl (ow_y (yh_assign rfl rfl) rfl rfl (kk_wl ?_))
                refine wl_nil ?_
                refine ex_unroll ?_
                refine cw_seq ?_
                refine cw_seq ?_
                refine cw_region ?_
                refine wl_u rfl (ow_y (yh_move rfl rfl) rfl rfl (kk_wl ?_))
                refine wl_u rfl (ow_y (yh_move rfl rfl) rfl rfl (kk_wl ?_))
                refine wl_u rfl (ow_y (yh_cmpI rfl rfl rfl rfl) rfl rfl (kk_wl ?_))
                refine wl_nil ?_
                refine ex_seq ?_
                refine cw_split rfl (fun cc9 => ?_) (fun cc9 => ?_)
                · skip
                  replace h := bt cc9 h
                  exact nosome h
                · skip
                  replace h := bf cc9 h
                  have q8 := ltb_false.1 cc9
                  refine cw_exit ?_
                  refine ex_then_exit ?_
                  refine ex_then_exit ?_
                  refine ex_block_exit ?_
                  refine ex_seq ?_
                  refine cw_seq ?_
                  refine cw_region ?_
                  refine wl_u rfl (ow_y (yh_loadBA Tb (k := 15) rfl rfl rfl rfl rfl rfl) rfl rfl (kk_wl ?_))
                  refine wl_u rfl (ow_y (yh_move rfl rfl) rfl rfl (kk_wl ?_))
                  refine wl_u rfl (ow_storeA Tb (k := 17) rfl rfl rfl rfl rfl rfl rfl rfl rfl (kk_wl ?_))
                  refine wl_u rfl (ow_y (yh_assign rfl rfl) rfl rfl (kk_wl ?_))
                  refine wl_nil ?_
                  refine ex_seq ?_
                  refine cw_ret ?_
                  obtain rfl := Option.some.inj h
                  exact ex_r2 Tb rfl (.cellA 0 rfl rfl rfl rfl rfl) (.tmp rfl) (fun wq hq => ⟨_, rfl, hq.ext, ⟨a16, c16, F16, a2046, c2046, F2046, rfl, NewC.sel [17, 1] hq rfl⟩⟩)
              · skip
                replace h := bf cc8 h
                have q9 := eqb_false.1 cc8
                refine cw_skip ?_
                refine ex_block_normal ?_
                refine ex_seq ?_
                refine cw_region ?_
                refine wl_u rfl (ow_y (yh_move rfl rfl) rfl rfl (kk_wl ?_))
                refine wl_u rfl (ow_y (yh_arI rfl rfl rfl rfl (by omega)) rfl rfl (kk_wl ?_))
                refine wl_u rfl (ow_y (yh_assign rfl rfl) rfl rfl (kk_wl ?_))
                refine wl_nil ?_
                refine ex_unroll ?_
                refine cw_seq ?_
                refine cw_seq ?_
                refine cw_region ?_
                refine wl_u rfl (ow_y (yh_move rfl rfl) rfl rfl (kk_wl ?_))
                refine wl_u rfl (ow_y (yh_move rfl rfl) rfl rfl (kk_wl ?_))
                refine wl_u rfl (ow_y (yh_cmpI rfl rfl rfl rfl) rfl rfl (kk_wl ?_))
                refine wl_nil ?_
                refine ex_seq ?_
                refine cw_split rfl (fun cc10 => ?_) (fun cc10 => ?_)
                · skip
                  replace h := bt cc10 h
                  exact nosome h
                · skip
                  replace h := bf cc10 h
                  have q11 := ltb_false.1 cc10
                  refine cw_exit ?_
                  refine ex_then_exit ?_
                  refine ex_then_exit ?_
                  refine ex_block_exit ?_
                  refine ex_seq ?_
                  refine cw_seq ?_
                  refine cw_region ?_
                  refine wl_u rfl (ow_y (yh_loadBA Tb (k := 15) rfl rfl rfl rfl rfl rfl) rfl rfl (kk_wl ?_))
                  refine wl_u rfl (ow_y (yh_move rfl rfl) rfl rfl (kk_wl ?_))
                  refine wl_u rfl (ow_storeA Tb (k := 17) rfl rfl rfl rfl rfl rfl rfl rfl rfl (kk_wl ?_))
                  refine wl_u rfl (ow_y (yh_assign rfl rfl) rfl rfl (kk_wl ?_))
                  refine wl_nil ?_
                  refine ex_seq ?_
                  refine cw_ret ?_
                  obtain rfl := Option.some.inj h
                  exact ex_r2 Tb rfl (.cellA 0 rfl rfl rfl rfl rfl) (.tmp rfl) (fun wq hq => ⟨_, rfl, hq.ext, ⟨a16, c16, F16, a1046, c1046, F1046, rfl, NewC.sel [17, 6] hq rfl⟩⟩)
          · skip
            replace h := bf cc5 h
            have q12 := ltb_false.1 cc5
            refine cw_exit ?_
            refine ex_then_exit ?_
            refine ex_then_exit ?_
            refine ex_block_exit ?_
            refine ex_seq ?_
            refine cw_seq ?_
            refine cw_region ?_
            refine wl_u rfl (ow_y (yh_loadBA Tb (k := 11) rfl rfl rfl rfl rfl rfl) rfl rfl (kk_wl ?_))
            refine wl_u rfl (ow_y (yh_move rfl rfl) rfl rfl (kk_wl ?_))
            refine wl_u rfl (ow_storeA Tb (k := 13) rfl rfl rfl rfl rfl rfl rfl rfl rfl (kk_wl ?_))
            refine wl_u rfl (ow_y (yh_assign rfl rfl) rfl rfl (kk_wl ?_))
            refine wl_nil ?_
            refine ex_seq ?_
            refine cw_ret ?_
            obtain rfl := Option.some.inj h
            exact ex_r2 Tb rfl (.cellA 0 rfl rfl rfl rfl rfl) (.tmp rfl) (fun wq hq => ⟨_, rfl, hq.ext, ⟨a16, c16, F16, a1046, c1046, F1046, rfl, NewC.sel [13, 1] hq rfl⟩⟩)
        · skip
          replace h := bf cc4 h
          refine cw_skip ?_
          refine ex_seq ?_
          refine cw_seq ?_
          refine cw_region ?_
          refine wl_u rfl (ow_y (yh_move rfl rfl) rfl rfl (kk_wl ?_))
          refine wl_u rfl (ow_y (yh_move rfl rfl) rfl rfl (kk_wl ?_))
          refine wl_s rfl rfl (fun hc => Bool.noConfusion (cc4.symm.trans hc)) (fun _ => ?_)
          refine wl_g rfl rfl (ow_y (yh_move rfl rfl) rfl rfl (kk_wl ?_))
          obtain ⟨x1040, hx1040, h⟩ := bd h
          have mp1040 := pick_lt hx1040 (by decide)
          refine wl_g rfl rfl (ow_cM0 4 rfl hb45 rfl rfl (fun w hw => c_spec_l6Rd_pick N _ _ _ _ hx1040 w (hw.at (i := 4) rfl) (Lay.atR (i := 4) hf14 rfl hw)) rfl rfl (kk_wl ?_))
          refine wl_g rfl rfl (ow_y (yh_cmpI rfl rfl rfl rfl) rfl rfl (kk_wl ?_))
          refine wl_u rfl (ow_y (yh_pickF rfl rfl rfl) rfl rfl (kk_wl ?_))
          refine wl_nil ?_
          refine ex_seq ?_
          refine cw_split rfl (fun cc11 => ?_) (fun cc11 => ?_)
          · skip
            replace h := bt cc11 h
            have q13 := eqb_true.1 cc11
            refine cw_region ?_
            refine wl_u rfl (ow_y (yh_move rfl rfl) rfl rfl (kk_wl ?_))
            refine wl_u rfl (ow_y (yh_loadBA Tb (k := 3) rfl rfl rfl rfl rfl rfl) rfl rfl (kk_wl ?_))
            refine wl_u rfl (ow_litA Tb rfl rfl rfl rfl rfl rfl (by decide) rfl rfl (fun g1045 => kk_wl ?_))
            obtain ⟨hll1046, h⟩ := bd_appd h
            refine wl_u rfl (ow_chg (c' := owC changeL F1028 [.int .i64 x1028.1.kind, .string x1028.1.step.name, .slice a1028 x1028.1.step.after.length c1028, .bool x1028.1.step.undo] x1028.1) 5 rfl (fun w hA => changeL_mk x1028.1 hA) rfl (ow_appE Tb (i := 6) (j := 0) (k := 1) rfl rfl rfl rfl rfl rfl rfl rfl rfl rfl rfl (app1 hll1046) (by decide) rfl rfl (fun a1046 c1046 F1046 => kk_wl ?_)))
            refine wl_u rfl (ow_y (yh_assign rfl rfl) rfl rfl (kk_wl ?_))
            refine wl_nil ?_
            refine ex_block_normal ?_
            refine ex_seq ?_
            refine cw_region ?_
            refine wl_u rfl (ow_y (yh_move rfl rfl) rfl rfl (kk_wl ?_))
            refine wl_u rfl (ow_y (yh_arI rfl rfl rfl rfl (by omega)) rfl rfl (kk_wl ?_))
            refine wl_u rfl (ow_y (yh_assign rfl rfl) rfl rfl (kk_wl ?_))
            refine wl_nil ?_
            refine ex_unroll ?_
            refine cw_seq ?_
            refine cw_seq ?_
            refine cw_region ?_
            refine wl_u rfl (ow_y (yh_move rfl rfl) rfl rfl (kk_wl ?_))
            refine wl_u rfl (ow_y (yh_move rfl rfl) rfl rfl (kk_wl ?_))
            refine wl_u rfl (ow_y (yh_cmpI rfl rfl rfl rfl) rfl rfl (kk_wl ?_))
            refine wl_nil ?_
            refine ex_seq ?_
            refine cw_split rfl (fun cc12 => ?_) (fun cc12 => ?_)
            · skip
              replace h := bt cc12 h
              have q14 := ltb_true.1 cc12
              refine cw_skip ?_
              refine ex_seq ?_
              refine cw_seq ?_
              refine cw_block ?_
              refine cw_seq ?_
              refine cw_region ?_
              refine wl_u rfl (ow_y (yh_move rfl rfl) rfl rfl (kk_wl ?_))
              refine wl_u rfl (ow_y (yh_loadBA Tb (k := 7) rfl rfl rfl rfl rfl rfl) rfl rfl (kk_wl ?_))
              obtain ⟨x2028, hx2028, h⟩ := bd h
              refine wl_u rfl (ow_cM1 2 rfl hb27 rfl rfl (fun w hw => c_spec_l92Change N _ _ _ _ hx2028 w (hw.at (i := 2) rfl) (Lay.atR (i := 2) hf14 rfl hw) (rdoR (A := stepsL) 9 2 rfl rfl rfl hw)) rfl rfl (fun a2028 c2028 F2028 => kk_wl ?_))
              refine wl_u rfl (ow_allocA Tb rfl rfl rfl rfl (fun g2010 => kk_wl ?_))
              refine wl_u rfl (ow_storeA Tb (k := 0) rfl rfl rfl rfl rfl rfl rfl rfl rfl (kk_wl ?_))
              refine wl_nil ?_
              refine ex_seq ?_
              refine cw_seq ?_
              refine cw_region ?_
              refine wl_u rfl (ow_y (yh_loadBA Tb (k := 9) rfl rfl rfl rfl rfl rfl) rfl rfl (kk_wl ?_))
              refine wl_u rfl (ow_y (yh_loadBA Tb (k := 0) rfl rfl rfl rfl rfl rfl) rfl rfl (kk_wl ?_))
              obtain ⟨x2032, hx2032, h⟩ := bd h
              refine wl_u rfl (ow_cN1 rfl hb9 rfl (fun w hw => c_spec_FlowChange N _ _ _ hx2032 w (rdo (A := stepsL) 11 rfl hw) (rdo (A := strsL) 1 rfl hw)) rfl rfl (fun a2032 c2032 F2032 => kk_wl ?_))
              refine wl_u rfl (ow_y (yh_move rfl rfl) rfl rfl (kk_wl ?_))
              refine wl_u rfl (ow_y (yh_extract rfl rfl rfl) rfl rfl (kk_wl ?_))
              refine wl_u rfl (ow_y (yh_extract rfl rfl rfl) rfl rfl (kk_wl ?_))
              refine wl_u rfl (ow_allocA Tb rfl rfl rfl rfl (fun g2011 => kk_wl ?_))
              refine wl_u rfl (ow_storeA Tb (k := 0) rfl rfl rfl rfl rfl rfl rfl rfl rfl (kk_wl ?_))
              refine wl_u rfl (ow_y (yh_assign rfl rfl) rfl rfl (kk_wl ?_))
              refine wl_nil ?_
              refine ex_seq ?_
              refine cw_seq ?_
              refine cw_seq ?_
              refine cw_region ?_
              refine wl_u rfl (ow_y (yh_move rfl rfl) rfl rfl (kk_wl ?_))
              refine wl_nil ?_
              refine ex_seq ?_
              refine cw_split rfl (fun cc13 => ?_) (fun cc13 => ?_)
              · skip
                replace h := bt cc13 h
                refine cw_region ?_
                refine wl_u rfl (ow_y (yh_loadBA Tb (k := 0) rfl rfl rfl rfl rfl rfl) rfl rfl (kk_wl ?_))
                refine wl_u rfl (ow_storeA Tb (k := 11) rfl rfl rfl rfl rfl rfl rfl rfl rfl (kk_wl ?_))
                refine wl_nil ?_
                refine ex_seq ?_
                refine cw_seq ?_
                refine cw_region ?_
                refine wl_u rfl (ow_y (yh_move rfl rfl) rfl rfl (kk_wl ?_))
                refine wl_u rfl (ow_y (yh_move rfl rfl) rfl rfl (kk_wl ?_))
                refine wl_s rfl rfl (fun _ => ?_) (fun hc => Bool.noConfusion (cc13.symm.trans hc))
                refine wl_n rfl rfl rfl rfl ?_
                refine wl_n rfl rfl rfl rfl ?_
                refine wl_n rfl rfl rfl rfl ?_
                refine wl_u rfl (ow_y (yh_pickT rfl rfl rfl) rfl rfl (kk_wl ?_))
                refine wl_nil ?_
                refine ex_seq ?_
                refine cw_true rfl ?_
                refine cw_region ?_
                refine wl_u rfl (ow_y (yh_move rfl rfl) rfl rfl (kk_wl ?_))
                refine wl_u rfl (ow_y (yh_loadBA Tb (k := 3) rfl rfl rfl rfl rfl rfl) rfl rfl (kk_wl ?_))
                refine wl_u rfl (ow_litA Tb rfl rfl rfl rfl rfl rfl (by decide) rfl rfl (fun g2045 => kk_wl ?_))
                obtain ⟨hll2046, h⟩ := bd_appd h
                refine wl_u rfl (ow_chg (c' := owC changeL F2028 [.int .i64 x2028.1.kind, .string x2028.1.step.name, .slice a2028 x2028.1.step.after.length c2028, .bool x2028.1.step.undo] x2028.1) 5 rfl (fun w hA => changeL_mk x2028.1 hA) rfl (ow_appE Tb (i := 7) (j := 0) (k := 1) rfl rfl rfl rfl rfl rfl rfl rfl rfl rfl rfl (app1 hll2046) (by decide) rfl rfl (fun a2046 c2046 F2046 => kk_wl ?_)))
                refine wl_u rfl (ow_y (yh_assign rfl rfl) rfl rfl (kk_wl ?_))
                refine wl_nil ?_
                refine ex_block_normal ?_
                refine ex_seq ?_
                refine cw_region ?_
                refine wl_u rfl (ow_y (yh_move rfl rfl) rfl rfl (kk_wl ?_))
                refine wl_u rfl (ow_y (yh_arI rfl rfl rfl rfl (by omega)) rfl rfl (kk_wl ?_))
                refine wl_u rfl (ow_y (yh_assign rfl rfl) rfl rfl (kk_wl ?_))
                refine wl_nil ?_
                refine ex_unroll ?_
                refine cw_seq ?_
                refine cw_seq ?_
                refine cw_region ?_
                refine wl_u rfl (ow_y (yh_move rfl rfl) rfl rfl (kk_wl ?_))
                refine wl_u rfl (ow_y (yh_move rfl rfl) rfl rfl (kk_wl ?_))
                refine wl_u rfl (ow_y (yh_cmpI rfl rfl rfl rfl) rfl rfl (kk_wl ?_))
                refine wl_nil ?_
                refine ex_seq ?_
                refine cw_split rfl (fun cc14 => ?_) (fun cc14 => ?_)
                · skip
                  replace h := bt cc14 h
                  exact nosome h
                · skip
                  replace h := bf cc14 h
                  have q16 := ltb_false.1 cc14
                  refine cw_exit ?_
                  refine ex_then_exit ?_
                  refine ex_then_exit ?_
                  refine ex_block_exit ?_
                  refine ex_seq ?_
                  refine cw_seq ?_
                  refine cw_region ?_
                  refine wl_u rfl (ow_y (yh_loadBA Tb (k := 15) rfl rfl rfl rfl rfl rfl) rfl rfl (kk_wl ?_))
                  refine wl_u rfl (ow_y (yh_move rfl rfl) rfl rfl (kk_wl ?_))
                  refine wl_u rfl (ow_storeA Tb (k := 17) rfl rfl rfl rfl rfl rfl rfl rfl rfl (kk_wl ?_))
                  refine wl_u rfl (ow_y (yh_assign rfl rfl) rfl rfl (kk_wl ?_))
                  refine wl_nil ?_
                  refine ex_seq ?_
                  refine cw_ret ?_
                  obtain rfl := Option.some.inj h
                  exact ex_r2 Tb rfl (.cellA 0 rfl rfl rfl rfl rfl) (.tmp rfl) (fun wq hq => ⟨_, rfl, hq.ext, ⟨a16, c16, F16, a2046, c2046, F2046, rfl, NewC.sel [17, 1] hq rfl⟩⟩)
              · skip
                replace h := bf cc13 h
                refine cw_skip ?_
                refine ex_seq ?_
                refine cw_seq ?_
                refine cw_region ?_
                refine wl_u rfl (ow_y (yh_move rfl rfl) rfl rfl (kk_wl ?_))
                refine wl_u rfl (ow_y (yh_move rfl rfl) rfl rfl (kk_wl ?_))
                refine wl_s rfl rfl (fun hc => Bool.noConfusion (cc13.symm.trans hc)) (fun _ => ?_)
                refine wl_g rfl rfl (ow_y (yh_move rfl rfl) rfl rfl (kk_wl ?_))
                obtain ⟨x2040, hx2040, h⟩ := bd h
                have mp2040 := pick_lt hx2040 (by decide)
                refine wl_g rfl rfl (ow_cM0 4 rfl hb45 rfl rfl (fun w hw => c_spec_l6Rd_pick N _ _ _ _ hx2040 w (hw.at (i := 4) rfl) (Lay.atR (i := 4) hf14 rfl hw)) rfl rfl (kk_wl ?_))
                refine wl_g rfl rfl (ow_y (yh_cmpI rfl rfl rfl rfl) rfl rfl (kk_wl ?_))
                refine wl_u rfl (ow_y (yh_pickF rfl rfl rfl) rfl rfl (kk_wl ?_))
                refine wl_nil ?_
                refine ex_seq ?_
                refine cw_split rfl (fun cc15 => ?_) (fun cc15 => ?_)
                · skip
                  replace h := bt cc15 h
                  have q17 := eqb_true.1 cc15
                  refine cw_region ?_
                  refine wl_u rfl (ow_y (yh_move rfl rfl) rfl rfl (kk_wl ?_))
                  refine wl_u rfl (ow_y (yh_loadBA Tb (k := 3) rfl rfl rfl rfl rfl rfl) rfl rfl (kk_wl ?_))
                  refine wl_u rfl (ow_litA Tb rfl rfl rfl rfl rfl rfl (by decide) rfl rfl (fun g2045 => kk_wl ?_))
                  obtain ⟨hll2046, h⟩ := bd_appd h
                  refine wl_u rfl (ow_chg (c' := owC changeL F2028 [.int .i64 x2028.1.kind, .string x2028.1.step.name, .slice a2028 x2028.1.step.after.length c2028, .bool x2028.1.step.undo] x2028.1) 5 rfl (fun w hA => changeL_mk x2028.1 hA) rfl (ow_appE Tb (i := 6) (j := 0) (k := 1) rfl rfl rfl rfl rfl rfl rfl rfl rfl rfl rfl (app1 hll2046) (by decide) rfl rfl (fun a2046 c2046 F2046 => kk_wl ?_)))
                  refine wl_u rfl (ow_y (yh_assign rfl rfl) rfl rfl (kk_wl ?_))
                  refine wl_nil ?_
                  refine ex_block_normal ?_
                  refine ex_seq ?_
                  refine cw_region ?_
                  refine wl_u rfl (ow_y (yh_move rfl rfl) rfl rfl (kk_wl ?_))
                  refine wl_u rfl (ow_y (yh_arI rfl rfl rfl rfl (by omega)) rfl rfl (kk_wl ?_))
                  refine wl_u rfl (ow_y (yh_assign rfl rfl) rfl rfl (kk_wl ?_))
                  refine wl_nil ?_
                  refine ex_unroll ?_
                  refine cw_seq ?_
                  refine cw_seq ?_
                  refine cw_region ?_
                  refine wl_u rfl (ow_y (yh_move rfl rfl) rfl rfl (kk_wl ?_))
                  refine wl_u rfl (ow_y (yh_move rfl rfl) rfl rfl (kk_wl ?_))
                  refine wl_u rfl (ow_y (yh_cmpI rfl rfl rfl rfl) rfl rfl (kk_wl ?_))
                  refine wl_nil ?_
                  refine ex_seq ?_
                  refine cw_split rfl (fun cc16 => ?_) (fun cc16 => ?_)
                  · skip
                    replace h := bt cc16 h
                    exact nosome h
                  · skip
                    replace h := bf cc16 h
                    have q19 := ltb_false.1 cc16
                    refine cw_exit ?_
                    refine ex_then_exit ?_
                    refine ex_then_exit ?_
                    refine ex_block_exit ?_
                    refine ex_seq ?_
                    refine cw_seq ?_
                    refine cw_region ?_
                    refine wl_u rfl (ow_y (yh_loadBA Tb (k := 15) rfl rfl rfl rfl rfl rfl) rfl rfl (kk_wl ?_))
                    refine wl_u rfl (ow_y (yh_move rfl rfl) rfl rfl (kk_wl ?_))
                    refine wl_u rfl (ow_storeA Tb (k := 17) rfl rfl rfl rfl rfl rfl rfl rfl rfl (kk_wl ?_))
                    refine wl_u rfl (ow_y (yh_assign rfl rfl) rfl rfl (kk_wl ?_))
                    refine wl_nil ?_
                    refine ex_seq ?_
                    refine cw_ret ?_
                    obtain rfl := Option.some.inj h
                    exact ex_r2 Tb rfl (.cellA 0 rfl rfl rfl rfl rfl) (.tmp rfl) (fun wq hq => ⟨_, rfl, hq.ext, ⟨a16, c16, F16, a2046, c2046, F2046, rfl, NewC.sel [17, 1] hq rfl⟩⟩)
                · skip
                  replace h := bf cc15 h
                  have q20 := eqb_false.1 cc15
                  refine cw_skip ?_
                  refine ex_block_normal ?_
                  refine ex_seq ?_
                  refine cw_region ?_
                  refine wl_u rfl (ow_y (yh_move rfl rfl) rfl rfl (kk_wl ?_))
                  refine wl_u rfl (ow_y (yh_arI rfl rfl rfl rfl (by omega)) rfl rfl (kk_wl ?_))
                  refine wl_u rfl (ow_y (yh_assign rfl rfl) rfl rfl (kk_wl ?_))
                  refine wl_nil ?_
                  refine ex_unroll ?_
                  refine cw_seq ?_
                  refine cw_seq ?_
                  refine cw_region ?_
                  refine wl_u rfl (ow_y (yh_move rfl rfl) rfl rfl (kk_wl ?_))
                  refine wl_u rfl (ow_y (yh_move rfl rfl) rfl rfl (kk_wl ?_))
                  refine wl_u rfl (ow_y (yh_cmpI rfl rfl rfl rfl) rfl rfl (kk_wl ?_))
                  refine wl_nil ?_
                  refine ex_seq ?_
                  refine cw_split rfl (fun cc17 => ?_) (fun cc17 => ?_)
                  · skip
                    replace h := bt cc17 h
                    exact nosome h
                  · skip
                    replace h := bf cc17 h
                    have q22 := ltb_false.1 cc17
                    refine cw_exit ?_
                    refine ex_then_exit ?_
                    refine ex_then_exit ?_
                    refine ex_block_exit ?_
                    refine ex_seq ?_
                    refine cw_seq ?_
                    refine cw_region ?_
                    refine wl_u rfl (ow_y (yh_loadBA Tb (k := 15) rfl rfl rfl rfl rfl rfl) rfl rfl (kk_wl ?_))
                    refine wl_u rfl (ow_y (yh_move rfl rfl) rfl rfl (kk_wl ?_))
                    refine wl_u rfl (ow_storeA Tb (k := 17) rfl rfl rfl rfl rfl rfl rfl rfl rfl (kk_wl ?_))
                    refine wl_u rfl (ow_y (yh_assign rfl rfl) rfl rfl (kk_wl ?_))
                    refine wl_nil ?_
                    refine ex_seq ?_
                    refine cw_ret ?_
                    obtain rfl := Option.some.inj h
                    exact ex_r2 Tb rfl (.cellA 0 rfl rfl rfl rfl rfl) (.tmp rfl) (fun wq hq => ⟨_, rfl, hq.ext, ⟨a16, c16, F16, a1046, c1046, F1046, rfl, NewC.sel [17, 6] hq rfl⟩⟩)
            · skip
              replace h := bf cc12 h
              have q23 := ltb_false.1 cc12
              refine cw_exit ?_
              refine ex_then_exit ?_
              refine ex_then_exit ?_
              refine ex_block_exit ?_
              refine ex_seq ?_
              refine cw_seq ?_
              refine cw_region ?_
              refine wl_u rfl (ow_y (yh_loadBA Tb (k := 11) rfl rfl rfl rfl rfl rfl) rfl rfl (kk_wl ?_))
              refine wl_u rfl (ow_y (yh_move rfl rfl) rfl rfl (kk_wl ?_))
              refine wl_u rfl (ow_storeA Tb (k := 13) rfl rfl rfl rfl rfl rfl rfl rfl rfl (kk_wl ?_))
              refine wl_u rfl (ow_y (yh_assign rfl rfl) rfl rfl (kk_wl ?_))
              refine wl_nil ?_
              refine ex_seq ?_
              refine cw_ret ?_
              obtain rfl := Option.some.inj h
              exact ex_r2 Tb rfl (.cellA 0 rfl rfl rfl rfl rfl) (.tmp rfl) (fun wq hq => ⟨_, rfl, hq.ext, ⟨a16, c16, F16, a1046, c1046, F1046, rfl, NewC.sel [13, 1] hq rfl⟩⟩)
          · skip
            replace h := bf cc11 h
            have q24 := eqb_false.1 cc11
            refine cw_skip ?_
            refine ex_block_normal ?_
            refine ex_seq ?_
            refine cw_region ?_
            refine wl_u rfl (ow_y (yh_move rfl rfl) rfl rfl (kk_wl ?_))
            refine wl_u rfl (ow_y (yh_arI rfl rfl rfl rfl (by omega)) rfl rfl (kk_wl ?_))
            refine wl_u rfl (ow_y (yh_assign rfl rfl) rfl rfl (kk_wl ?_))
            refine wl_nil ?_
            refine ex_unroll ?_
            refine cw_seq ?_
            refine cw_seq ?_
            refine cw_region ?_
            refine wl_u rfl (ow_y (yh_move rfl rfl) rfl rfl (kk_wl ?_))
            refine wl_u rfl (ow_y (yh_move rfl rfl) rfl rfl (kk_wl ?_))
            refine wl_u rfl (ow_y (yh_cmpI rfl rfl rfl rfl) rfl rfl (kk_wl ?_))
            refine wl_nil ?_
            refine ex_seq ?_
            refine cw_split rfl (fun cc18 => ?_) (fun cc18 => ?_)
            · skip
              replace h := bt cc18 h
              have q25 := ltb_true.1 cc18
              refine cw_skip ?_
              refine ex_seq ?_
              refine cw_seq ?_
              refine cw_block ?_
              refine cw_seq ?_
              refine cw_region ?_
              refine wl_u rfl (ow_y (yh_move rfl rfl) rfl rfl (kk_wl ?_))
              refine wl_u rfl (ow_y (yh_loadBA Tb (k := 7) rfl rfl rfl rfl rfl rfl) rfl rfl (kk_wl ?_))
              obtain ⟨x2028, hx2028, h⟩ := bd h
              refine wl_u rfl (ow_cM1 0 rfl hb27 rfl rfl (fun w hw => c_spec_l92Change N _ _ _ _ hx2028 w (hw.at (i := 0) rfl) (Lay.atR (i := 0) hf14 rfl hw) (rdoR (A := stepsL) 9 0 rfl rfl rfl hw)) rfl rfl (fun a2028 c2028 F2028 => kk_wl ?_))
              refine wl_u rfl (ow_allocA Tb rfl rfl rfl rfl (fun g2010 => kk_wl ?_))
              refine wl_u rfl (ow_storeA Tb (k := 0) rfl rfl rfl rfl rfl rfl rfl rfl rfl (kk_wl ?_))
              refine wl_nil ?_
              refine ex_seq ?_
              refine cw_seq ?_
              refine cw_region ?_
              refine wl_u rfl (ow_y (yh_loadBA Tb (k := 9) rfl rfl rfl rfl rfl rfl) rfl rfl (kk_wl ?_))
              refine wl_u rfl (ow_y (yh_loadBA Tb (k := 0) rfl rfl rfl rfl rfl rfl) rfl rfl (kk_wl ?_))
              obtain ⟨x2032, hx2032, h⟩ := bd h
              refine wl_u rfl (ow_cN1 rfl hb9 rfl (fun w hw => c_spec_FlowChange N _ _ _ hx2032 w (rdo (A := stepsL) 11 rfl hw) (rdo (A := strsL) 1 rfl hw)) rfl rfl (fun a2032 c2032 F2032 => kk_wl ?_))
              refine wl_u rfl (ow_y (yh_move rfl rfl) rfl rfl (kk_wl ?_))
              refine wl_u rfl (ow_y (yh_extract rfl rfl rfl) rfl rfl (kk_wl ?_))
              refine wl_u rfl (ow_y (yh_extract rfl rfl rfl) rfl rfl (kk_wl ?_))
              refine wl_u rfl (ow_allocA Tb rfl rfl rfl rfl (fun g2011 => kk_wl ?_))
              refine wl_u rfl (ow_storeA Tb (k := 0) rfl rfl rfl rfl rfl rfl rfl rfl rfl (kk_wl ?_))
              refine wl_u rfl (ow_y (yh_assign rfl rfl) rfl rfl (kk_wl ?_))
              refine wl_nil ?_
              refine ex_seq ?_
              refine cw_seq ?_
              refine cw_seq ?_
              refine cw_region ?_
              refine wl_u rfl (ow_y (yh_move rfl rfl) rfl rfl (kk_wl ?_))
              refine wl_nil ?_
              refine ex_seq ?_
              refine cw_split rfl (fun cc19 => ?_) (fun cc19 => ?_)
              · skip
                replace h := bt cc19 h
                refine cw_region ?_
                refine wl_u rfl (ow_y (yh_loadBA Tb (k := 0) rfl rfl rfl rfl rfl rfl) rfl rfl (kk_wl ?_))
                refine wl_u rfl (ow_storeA Tb (k := 11) rfl rfl rfl rfl rfl rfl rfl rfl rfl (kk_wl ?_))
                refine wl_nil ?_
                refine ex_seq ?_
                refine cw_seq ?_
                refine cw_region ?_
                refine wl_u rfl (ow_y (yh_move rfl rfl) rfl rfl (kk_wl ?_))
                refine wl_u rfl (ow_y (yh_move rfl rfl) rfl rfl (kk_wl ?_))
                refine wl_s rfl rfl (fun _ => ?_) (fun hc => Bool.noConfusion (cc19.symm.trans hc))
                refine wl_n rfl rfl rfl rfl ?_
                refine wl_n rfl rfl rfl rfl ?_
                refine wl_n rfl rfl rfl rfl ?_
                refine wl_u rfl (ow_y (yh_pickT rfl rfl rfl) rfl rfl (kk_wl ?_))
                refine wl_nil ?_
                refine ex_seq ?_
                refine cw_true rfl ?_
                refine cw_region ?_
                refine wl_u rfl (ow_y (yh_move rfl rfl) rfl rfl (kk_wl ?_))
                refine wl_u rfl (ow_y (yh_loadBA Tb (k := 3) rfl rfl rfl rfl rfl rfl) rfl rfl (kk_wl ?_))
                refine wl_u rfl (ow_litA Tb rfl rfl rfl rfl rfl rfl (by decide) rfl rfl (fun g2045 => kk_wl ?_))
                obtain ⟨hll2046, h⟩ := bd_appd h
                refine wl_u rfl (ow_chg (c' := owC changeL F2028 [.int .i64 x2028.1.kind, .string x2028.1.step.name, .slice a2028 x2028.1.step.after.length c2028, .bool x2028.1.step.undo] x2028.1) 5 rfl (fun w hA => changeL_mk x2028.1 hA) rfl (ow_appE Tb (i := 11) (j := 0) (k := 1) rfl rfl rfl rfl rfl rfl rfl rfl rfl rfl rfl (app1 hll2046) (by decide) rfl rfl (fun a2046 c2046 F2046 => kk_wl ?_)))
                refine wl_u rfl (ow_y (yh_assign rfl rfl) rfl rfl (kk_wl ?_))
                refine wl_nil ?_
                refine ex_block_normal ?_
                refine ex_seq ?_
                refine cw_region ?_
                refine wl_u rfl (ow_y (yh_move rfl rfl) rfl rfl (kk_wl ?_))
                refine wl_u rfl (ow_y (yh_arI rfl rfl rfl rfl (by omega)) rfl rfl (kk_wl ?_))
                refine wl_u rfl (ow_y (yh_assign rfl rfl) rfl rfl (kk_wl ?_))
                refine wl_nil ?_
                refine ex_unroll ?_
                refine cw_seq ?_
                refine cw_seq ?_
                refine cw_region ?_
                refine wl_u rfl (ow_y (yh_move rfl rfl) rfl rfl (kk_wl ?_))
                refine wl_u rfl (ow_y (yh_move rfl rfl) rfl rfl (kk_wl ?_))
                refine wl_u rfl (ow_y (yh_cmpI rfl rfl rfl rfl) rfl rfl (kk_wl ?_))
                refine wl_nil ?_
                refine ex_seq ?_
                refine cw_split rfl (fun cc20 => ?_) (fun cc20 => ?_)
                · skip
                  replace h := bt cc20 h
                  exact nosome h
                · skip
                  replace h := bf cc20 h
                  have q27 := ltb_false.1 cc20
                  refine cw_exit ?_
                  refine ex_then_exit ?_
                  refine ex_then_exit ?_
                  refine ex_block_exit ?_
                  refine ex_seq ?_
                  refine cw_seq ?_
                  refine cw_region ?_
                  refine wl_u rfl (ow_y (yh_loadBA Tb (k := 15) rfl rfl rfl rfl rfl rfl) rfl rfl (kk_wl ?_))
                  refine wl_u rfl (ow_y (yh_move rfl rfl) rfl rfl (kk_wl ?_))
                  refine wl_u rfl (ow_storeA Tb (k := 17) rfl rfl rfl rfl rfl rfl rfl rfl rfl (kk_wl ?_))
                  refine wl_u rfl (ow_y (yh_assign rfl rfl) rfl rfl (kk_wl ?_))
                  refine wl_nil ?_
                  refine ex_seq ?_
                  refine cw_ret ?_
                  obtain rfl := Option.some.inj h
                  exact ex_r2 Tb rfl (.cellA 0 rfl rfl rfl rfl rfl) (.tmp rfl) (fun wq hq => ⟨_, rfl, hq.ext, ⟨a16, c16, F16, a2046, c2046, F2046, rfl, NewC.sel [17, 1] hq rfl⟩⟩)
              · skip
                replace h := bf cc19 h
                refine cw_skip ?_
                refine ex_seq ?_
                refine cw_seq ?_
                refine cw_region ?_
                refine wl_u rfl (ow_y (yh_move rfl rfl) rfl rfl (kk_wl ?_))
                refine wl_u rfl (ow_y (yh_move rfl rfl) rfl rfl (kk_wl ?_))
                refine wl_s rfl rfl (fun hc => Bool.noConfusion (cc19.symm.trans hc)) (fun _ => ?_)
                refine wl_g rfl rfl (ow_y (yh_move rfl rfl) rfl rfl (kk_wl ?_))
                obtain ⟨x2040, hx2040, h⟩ := bd h
                have mp2040 := pick_lt hx2040 (by decide)
                refine wl_g rfl rfl (ow_cM0 4 rfl hb45 rfl rfl (fun w hw => c_spec_l6Rd_pick N _ _ _ _ hx2040 w (hw.at (i := 4) rfl) (Lay.atR (i := 4) hf14 rfl hw)) rfl rfl (kk_wl ?_))
                refine wl_g rfl rfl (ow_y (yh_cmpI rfl rfl rfl rfl) rfl rfl (kk_wl ?_))
                refine wl_u rfl (ow_y (yh_pickF rfl rfl rfl) rfl rfl (kk_wl ?_))
                refine wl_nil ?_
                refine ex_seq ?_
                refine cw_split rfl (fun cc21 => ?_) (fun cc21 => ?_)
                · skip
                  replace h := bt cc21 h
                  have q28 := eqb_true.1 cc21
                  refine cw_region ?_
                  refine wl_u rfl (ow_y (yh_move rfl rfl) rfl rfl (kk_wl ?_))
                  refine wl_u rfl (ow_y (yh_loadBA Tb (k := 3) rfl rfl rfl rfl rfl rfl) rfl rfl (kk_wl ?_))
                  refine wl_u rfl (ow_litA Tb rfl rfl rfl rfl rfl rfl (by decide) rfl rfl (fun g2045 => kk_wl ?_))
                  obtain ⟨hll2046, h⟩ := bd_appd h
                  refine wl_u rfl (ow_chg (c' := owC changeL F2028 [.int .i64 x2028.1.kind, .string x2028.1.step.name, .slice a2028 x2028.1.step.after.length c2028, .bool x2028.1.step.undo] x2028.1) 5 rfl (fun w hA => changeL_mk x2028.1 hA) rfl (ow_appE Tb (i := 10) (j := 0) (k := 1) rfl rfl rfl rfl rfl rfl rfl rfl rfl rfl rfl (app1 hll2046) (by decide) rfl rfl (fun a2046 c2046 F2046 => kk_wl ?_)))
                  refine wl_u rfl (ow_y (yh_assign rfl rfl) rfl rfl (kk_wl ?_))
                  refine wl_nil ?_
                  refine ex_block_normal ?_
                  refine ex_seq ?_
                  refine cw_region ?_
                  refine wl_u rfl (ow_y (yh_move rfl rfl) rfl rfl (kk_wl ?_))
                  refine wl_u rfl (ow_y (yh_arI rfl rfl rfl rfl (by omega)) rfl rfl (kk_wl ?_))
                  refine wl_u rfl (ow_y (yh_assign rfl rfl) rfl rfl (kk_wl ?_))
                  refine wl_nil ?_
                  refine ex_unroll ?_
                  refine cw_seq ?_
                  refine cw_seq ?_
                  refine cw_region ?_
                  refine wl_u rfl (ow_y (yh_move rfl rfl) rfl rfl (kk_wl ?_))
                  refine wl_u rfl (ow_y (yh_move rfl rfl) rfl rfl (kk_wl ?_))
                  refine wl_u rfl (ow_y (yh_cmpI rfl rfl rfl rfl) rfl rfl (kk_wl ?_))
                  refine wl_nil ?_
                  refine ex_seq ?_
                  refine cw_split rfl (fun cc22 => ?_) (fun cc22 => ?_)
                  · skip
                    replace h := bt cc22 h
                    exact nosome h
                  · skip
                    replace h := bf cc22 h
                    have q30 := ltb_false.1 cc22
                    refine cw_exit ?_
                    refine ex_then_exit ?_
                    refine ex_then_exit ?_
                    refine ex_block_exit ?_
                    refine ex_seq ?_
                    refine cw_seq ?_
                    refine cw_region ?_
                    refine wl_u rfl (ow_y (yh_loadBA Tb (k := 15) rfl rfl rfl rfl rfl rfl) rfl rfl (kk_wl ?_))
                    refine wl_u rfl (ow_y (yh_move rfl rfl) rfl rfl (kk_wl ?_))
                    refine wl_u rfl (ow_storeA Tb (k := 17) rfl rfl rfl rfl rfl rfl rfl rfl rfl (kk_wl ?_))
                    refine wl_u rfl (ow_y (yh_assign rfl rfl) rfl rfl (kk_wl ?_))
                    refine wl_nil ?_
                    refine ex_seq ?_
                    refine cw_ret ?_
                    obtain rfl := Option.some.inj h
                    exact ex_r2 Tb rfl (.cellA 0 rfl rfl rfl rfl rfl) (.tmp rfl) (fun wq hq => ⟨_, rfl, hq.ext, ⟨a16, c16, F16, a2046, c2046, F2046, rfl, NewC.sel [17, 1] hq rfl⟩⟩)
                · skip
                  replace h := bf cc21 h
                  have q31 := eqb_false.1 cc21
                  refine cw_skip ?_
                  refine ex_block_normal ?_
                  refine ex_seq ?_
                  refine cw_region ?_
                  refine wl_u rfl (ow_y (yh_move rfl rfl) rfl rfl (kk_wl ?_))
                  refine wl_u rfl (ow_y (yh_arI rfl rfl rfl rfl (by omega)) rfl rfl (kk_wl ?_))
                  refine wl_u rfl (ow_y (yh_assign rfl rfl) rfl rfl (kk_wl ?_))
                  refine wl_nil ?_
                  refine ex_unroll ?_
                  refine cw_seq ?_
                  refine cw_seq ?_
                  refine cw_region ?_
                  refine wl_u rfl (ow_y (yh_move rfl rfl) rfl rfl (kk_wl ?_))
                  refine wl_u rfl (ow_y (yh_move rfl rfl) rfl rfl (kk_wl ?_))
                  refine wl_u rfl (ow_y (yh_cmpI rfl rfl rfl rfl) rfl rfl (kk_wl ?_))
                  refine wl_nil ?_
                  refine ex_seq ?_
                  refine cw_split rfl (fun cc23 => ?_) (fun cc23 => ?_)
                  · skip
                    replace h := bt cc23 h
                    exact nosome h
                  · skip
                    replace h := bf cc23 h
                    have q33 := ltb_false.1 cc23
                    refine cw_exit ?_
                    refine ex_then_exit ?_
                    refine ex_then_exit ?_
                    refine ex_block_exit ?_
                    refine ex_seq ?_
                    refine cw_seq ?_
                    refine cw_region ?_
                    refine wl_u rfl (ow_y (yh_loadBA Tb (k := 15) rfl rfl rfl rfl rfl rfl) rfl rfl (kk_wl ?_))
                    refine wl_u rfl (ow_y (yh_move rfl rfl) rfl rfl (kk_wl ?_))
                    refine wl_u rfl (ow_storeA Tb (k := 17) rfl rfl rfl rfl rfl rfl rfl rfl rfl (kk_wl ?_))
                    refine wl_u rfl (ow_y (yh_assign rfl rfl) rfl rfl (kk_wl ?_))
                    refine wl_nil ?_
                    refine ex_seq ?_
                    refine cw_ret ?_
                    obtain rfl := Option.some.inj h
                    exact ex_r2 Tb rfl (.cellA 0 rfl rfl rfl rfl rfl) (.tmp rfl) (fun wq hq => ⟨_, rfl, hq.ext, ⟨a16, c16, F16, a46, c46, F46, rfl, NewC.sel [17, 10] hq rfl⟩⟩)
            · skip
              replace h := bf cc18 h
              have q34 := ltb_false.1 cc18
              refine cw_exit ?_
              refine ex_then_exit ?_
              refine ex_then_exit ?_
              refine ex_block_exit ?_
              refine ex_seq ?_
              refine cw_seq ?_
              refine cw_region ?_
              refine wl_u rfl (ow_y (yh_loadBA Tb (k := 11) rfl rfl rfl rfl rfl rfl) rfl rfl (kk_wl ?_))
              refine wl_u rfl (ow_y (yh_move rfl rfl) rfl rfl (kk_wl ?_))
              refine wl_u rfl (ow_storeA Tb (k := 13) rfl rfl rfl rfl rfl rfl rfl rfl rfl (kk_wl ?_))
              refine wl_u rfl (ow_y (yh_assign rfl rfl) rfl rfl (kk_wl ?_))
              refine wl_nil ?_
              refine ex_seq ?_
              refine cw_ret ?_
              obtain rfl := Option.some.inj h
              exact ex_r2 Tb rfl (.cellA 0 rfl rfl rfl rfl rfl) (.tmp rfl) (fun wq hq => ⟨_, rfl, hq.ext, ⟨a16, c16, F16, a46, c46, F46, rfl, NewC.sel [13, 6] hq rfl⟩⟩)
      · skip
        replace h := bf cc3 h
        have q35 := ltb_false.1 cc3
        refine cw_exit ?_
        refine ex_then_exit ?_
        refine ex_then_exit ?_
        refine ex_block_exit ?_
        refine ex_seq ?_
        refine cw_seq ?_
        refine cw_region ?_
        refine wl_u rfl (ow_y (yh_loadBA Tb (k := 7) rfl rfl rfl rfl rfl rfl) rfl rfl (kk_wl ?_))
        refine wl_u rfl (ow_y (yh_move rfl rfl) rfl rfl (kk_wl ?_))
        refine wl_u rfl (ow_storeA Tb (k := 9) rfl rfl rfl rfl rfl rfl rfl rfl rfl (kk_wl ?_))
        refine wl_u rfl (ow_y (yh_assign rfl rfl) rfl rfl (kk_wl ?_))
        refine wl_nil ?_
        refine ex_seq ?_
        refine cw_ret ?_
        obtain rfl := Option.some.inj h
        exact ex_r2 Tb rfl (.cellA 0 rfl rfl rfl rfl rfl) (.tmp rfl) (fun wq hq => ⟨_, rfl, hq.ext, ⟨a16, c16, F16, a46, c46, F46, rfl, NewC.sel [9, 1] hq rfl⟩⟩)
    · skip
      replace h := bf cc2 h
      refine cw_skip ?_
      refine ex_seq ?_
      refine cw_seq ?_
      refine cw_region ?_
      refine wl_u rfl (ow_y (yh_move rfl rfl) rfl rfl (kk_wl ?_))
      refine wl_u rfl (ow_y (yh_move rfl rfl) rfl rfl (kk_wl ?_))
      refine wl_s rfl rfl (fun hc => Bool.noConfusion (cc2.symm.trans hc)) (fun _ => ?_)
      refine wl_g rfl rfl (ow_y (yh_move rfl rfl) rfl rfl (kk_wl ?_))
      obtain ⟨x40, hx40, h⟩ := bd h
      have mp40 := pick_lt hx40 (by decide)
      refine wl_g rfl rfl (ow_cM0 4 rfl hb45 rfl rfl (fun w hw => c_spec_l6Rd_pick N _ _ _ _ hx40 w (hw.at (i := 4) rfl) (Lay.atR (i := 4) hf14 rfl hw)) rfl rfl (kk_wl ?_))
      refine wl_g rfl rfl (ow_y (yh_cmpI rfl rfl rfl rfl) rfl rfl (kk_wl ?_))
      refine wl_u rfl (ow_y (yh_pickF rfl rfl rfl) rfl rfl (kk_wl ?_))
      refine wl_nil ?_
      refine ex_seq ?_
      refine cw_split rfl (fun cc24 => ?_) (fun cc24 => ?_)
      · skip
        replace h := bt cc24 h
        have q36 := eqb_true.1 cc24
        refine cw_region ?_
        refine wl_u rfl (ow_y (yh_move rfl rfl) rfl rfl (kk_wl ?_))
        refine wl_u rfl (ow_y (yh_loadBA Tb (k := 3) rfl rfl rfl rfl rfl rfl) rfl rfl (kk_wl ?_))
        refine wl_u rfl (ow_litA Tb rfl rfl rfl rfl rfl rfl (by decide) rfl rfl (fun g45 => kk_wl ?_))
        obtain ⟨hll46, h⟩ := bd_appd h
        refine wl_u rfl (ow_chg (c' := owC changeL F28 [.int .i64 x28.1.kind, .string x28.1.step.name, .slice a28 x28.1.step.after.length c28, .bool x28.1.step.undo] x28.1) 5 rfl (fun w hA => changeL_mk x28.1 hA) rfl (ow_appE Tb (i := 7) (j := 0) (k := 1) rfl rfl rfl rfl rfl rfl rfl rfl rfl rfl rfl (app1 hll46) (by decide) rfl rfl (fun a46 c46 F46 => kk_wl ?_)))
        refine wl_u rfl (ow_y (yh_assign rfl rfl) rfl rfl (kk_wl ?_))
        refine wl_nil ?_
        refine ex_block_normal ?_
        refine ex_seq ?_
        refine cw_region ?_
        refine wl_u rfl (ow_y (yh_move rfl rfl) rfl rfl (kk_wl ?_))
        refine wl_u rfl (ow_y (yh_arI rfl rfl rfl rfl (by omega)) rfl rfl (kk_wl ?_))
        refine wl_u rfl (ow_y (yh_assign rfl rfl) rfl rfl (kk_wl ?_))
        refine wl_nil ?_
        refine ex_unroll ?_
        refine cw_seq ?_
        refine cw_seq ?_
        refine cw_region ?_
        refine wl_u rfl (ow_y (yh_move rfl rfl) rfl rfl (kk_wl ?_))
        refine wl_u rfl (ow_y (yh_move rfl rfl) rfl rfl (kk_wl ?_))
        refine wl_u rfl (ow_y (yh_cmpI rfl rfl rfl rfl) rfl rfl (kk_wl ?_))
        refine wl_nil ?_
        refine ex_seq ?_
        refine cw_split rfl (fun cc25 => ?_) (fun cc25 => ?_)
        · skip
          replace h := bt cc25 h
          have q37 := ltb_true.1 cc25
          refine cw_skip ?_
          refine ex_seq ?_
          refine cw_seq ?_
          refine cw_block ?_
          refine cw_seq ?_
          refine cw_region ?_
          refine wl_u rfl (ow_y (yh_move rfl rfl) rfl rfl (kk_wl ?_))
          refine wl_u rfl (ow_y (yh_loadBA Tb (k := 6) rfl rfl rfl rfl rfl rfl) rfl rfl (kk_wl ?_))
          obtain ⟨x1028, hx1028, h⟩ := bd h
          refine wl_u rfl (ow_cM1 2 rfl hb27 rfl rfl (fun w hw => c_spec_l92Change N _ _ _ _ hx1028 w (hw.at (i := 2) rfl) (Lay.atR (i := 2) hf14 rfl hw) (rdoR (A := stepsL) 8 2 rfl rfl rfl hw)) rfl rfl (fun a1028 c1028 F1028 => kk_wl ?_))
          refine wl_u rfl (ow_allocA Tb rfl rfl rfl rfl (fun g1010 => kk_wl ?_))
          refine wl_u rfl (ow_storeA Tb (k := 0) rfl rfl rfl rfl rfl rfl rfl rfl rfl (kk_wl ?_))
          refine wl_nil ?_
          refine ex_seq ?_
          refine cw_seq ?_
          refine cw_region ?_
          refine wl_u rfl (ow_y (yh_loadBA Tb (k := 8) rfl rfl rfl rfl rfl rfl) rfl rfl (kk_wl ?_))
          refine wl_u rfl (ow_y (yh_loadBA Tb (k := 0) rfl rfl rfl rfl rfl rfl) rfl rfl (kk_wl ?_))
          obtain ⟨x1032, hx1032, h⟩ := bd h
          refine wl_u rfl (ow_cN1 rfl hb9 rfl (fun w hw => c_spec_FlowChange N _ _ _ hx1032 w (rdo (A := stepsL) 10 rfl hw) (rdo (A := strsL) 1 rfl hw)) rfl rfl (fun a1032 c1032 F1032 => kk_wl ?_))
          refine wl_u rfl (ow_y (yh_move rfl rfl) rfl rfl (kk_wl ?_))
          refine wl_u rfl (ow_y (yh_extract rfl rfl rfl) rfl rfl (kk_wl ?_))
          refine wl_u rfl (ow_y (yh_extract rfl rfl rfl) rfl rfl (kk_wl ?_))
          refine wl_u rfl (ow_allocA Tb rfl rfl rfl rfl (fun g1011 => kk_wl ?_))
          refine wl_u rfl (ow_storeA Tb (k := 0) rfl rfl rfl rfl rfl rfl rfl rfl rfl (kk_wl ?_))
          refine wl_u rfl (ow_y (yh_assign rfl rfl) rfl rfl (kk_wl ?_))
          refine wl_nil ?_
          refine ex_seq ?_
          refine cw_seq ?_
          refine cw_seq ?_
          refine cw_region ?_
          refine wl_u rfl (ow_y (yh_move rfl rfl) rfl rfl (kk_wl ?_))
          refine wl_nil ?_
          refine ex_seq ?_
          refine cw_split rfl (fun cc26 => ?_) (fun cc26 => ?_)
          · skip
            replace h := bt cc26 h
            refine cw_region ?_
            refine wl_u rfl (ow_y (yh_loadBA Tb (k := 0) rfl rfl rfl rfl rfl rfl) rfl rfl (kk_wl ?_))
            refine wl_u rfl (ow_storeA Tb (k := 10) rfl rfl rfl rfl rfl rfl rfl rfl rfl (kk_wl ?_))
            refine wl_nil ?_
            refine ex_seq ?_
            refine cw_seq ?_
            refine cw_region ?_
            refine wl_u rfl (ow_y (yh_move rfl rfl) rfl rfl (kk_wl ?_))
            refine wl_u rfl (ow_y (yh_move rfl rfl) rfl rfl (kk_wl ?_))
            refine wl_s rfl rfl (fun _ => ?_) (fun hc => Bool.noConfusion (cc26.symm.trans hc))
            refine wl_n rfl rfl rfl rfl ?_
            refine wl_n rfl rfl rfl rfl ?_
            refine wl_n rfl rfl rfl rfl ?_
            refine wl_u rfl (ow_y (yh_pickT rfl rfl rfl) rfl rfl (kk_wl ?_))
            refine wl_nil ?_
            refine ex_seq ?_
            refine cw_true rfl ?_
            refine cw_region ?_
            refine wl_u rfl (ow_y (yh_move rfl rfl) rfl rfl (kk_wl ?_))
            refine wl_u rfl (ow_y (yh_loadBA Tb (k := 3) rfl rfl rfl rfl rfl rfl) rfl rfl (kk_wl ?_))
            refine wl_u rfl (ow_litA Tb rfl rfl rfl rfl rfl rfl (by decide) rfl rfl (fun g1045 => kk_wl ?_))
            obtain ⟨hll1046, h⟩ := bd_appd h
            refine wl_u rfl (ow_chg (c' := owC changeL F1028 [.int .i64 x1028.1.kind, .string x1028.1.step.name, .slice a1028 x1028.1.step.after.length c1028, .bool x1028.1.step.undo] x1028.1) 5 rfl (fun w hA => changeL_mk x1028.1 hA) rfl (ow_appE Tb (i := 7) (j := 0) (k := 1) rfl rfl rfl rfl rfl rfl rfl rfl rfl rfl rfl (app1 hll1046) (by decide) rfl rfl (fun a1046 c1046 F1046 => kk_wl ?_)))
            refine wl_u rfl (ow_y (yh_assign rfl rfl) rfl rfl (kk_wl ?_))
            refine wl_nil ?_
            refine ex_block_normal ?_
            refine ex_seq ?_
            refine cw_region ?_
            refine wl_u rfl (ow_y (yh_move rfl rfl) rfl rfl (kk_wl ?_))
            refine wl_u rfl (ow_y (yh_arI rfl rfl rfl rfl (by omega)) rfl rfl (kk_wl ?_))
            refine wl_u rfl (ow_y (yh_assign rfl rfl) rfl rfl (kk_wl ?_))
            refine wl_nil ?_
            refine ex_unroll ?_
            refine cw_seq ?_
            refine cw_seq ?_
            refine cw_region ?_
            refine wl_u rfl (ow_y (yh_move rfl rfl) rfl rfl (kk_wl ?_))
            refine wl_u rfl (ow_y (yh_move rfl rfl) rfl rfl (kk_wl ?_))
            refine wl_u rfl (ow_y (yh_cmpI rfl rfl rfl rfl) rfl rfl (kk_wl ?_))
            refine wl_nil ?_
            refine ex_seq ?_
            refine cw_split rfl (fun cc27 => ?_) (fun cc27 => ?_)
            · skip
              replace h := bt cc27 h
              have q38 := ltb_true.1 cc27
              refine cw_skip ?_
              refine ex_seq ?_
              refine cw_seq ?_
              refine cw_block ?_
              refine cw_seq ?_
              refine cw_region ?_
              refine wl_u rfl (ow_y (yh_move rfl rfl) rfl rfl (kk_wl ?_))
              refine wl_u rfl (ow_y (yh_loadBA Tb (k := 2) rfl rfl rfl rfl rfl rfl) rfl rfl (kk_wl ?_))
              obtain ⟨x2028, hx2028, h⟩ := bd h
              refine wl_u rfl (ow_cM1 6 rfl hb27 rfl rfl (fun w hw => c_spec_l92Change N _ _ _ _ hx2028 w (hw.at (i := 6) rfl) (Lay.atR (i := 6) hf14 rfl hw) (rdoR (A := stepsL) 4 6 rfl rfl rfl hw)) rfl rfl (fun a2028 c2028 F2028 => kk_wl ?_))
              refine wl_u rfl (ow_allocA Tb rfl rfl rfl rfl (fun g2010 => kk_wl ?_))
              refine wl_u rfl (ow_storeA Tb (k := 0) rfl rfl rfl rfl rfl rfl rfl rfl rfl (kk_wl ?_))
              refine wl_nil ?_
              refine ex_seq ?_
              refine cw_seq ?_
              refine cw_region ?_
              refine wl_u rfl (ow_y (yh_loadBA Tb (k := 5) rfl rfl rfl rfl rfl rfl) rfl rfl (kk_wl ?_))
              refine wl_u rfl (ow_y (yh_loadBA Tb (k := 0) rfl rfl rfl rfl rfl rfl) rfl rfl (kk_wl ?_))
              obtain ⟨x2032, hx2032, h⟩ := bd h
              refine wl_u rfl (ow_cN1 rfl hb9 rfl (fun w hw => c_spec_FlowChange N _ _ _ hx2032 w (rdo (A := stepsL) 7 rfl hw) (rdo (A := strsL) 1 rfl hw)) rfl rfl (fun a2032 c2032 F2032 => kk_wl ?_))
              refine wl_u rfl (ow_y (yh_move rfl rfl) rfl rfl (kk_wl ?_))
              refine wl_u rfl (ow_y (yh_extract rfl rfl rfl) rfl rfl (kk_wl ?_))
              refine wl_u rfl (ow_y (yh_extract rfl rfl rfl) rfl rfl (kk_wl ?_))
              refine wl_u rfl (ow_allocA Tb rfl rfl rfl rfl (fun g2011 => kk_wl ?_))
              refine wl_u rfl (ow_storeA Tb (k := 0) rfl rfl rfl rfl rfl rfl rfl rfl rfl (kk_wl ?_))
              refine wl_u rfl (ow_y (yh_assign rfl rfl) rfl rfl (kk_wl ?_))
              refine wl_nil ?_
              refine ex_seq ?_
              refine cw_seq ?_
              refine cw_seq ?_
              refine cw_region ?_
              refine wl_u rfl (ow_y (yh_move rfl rfl) rfl rfl (kk_wl ?_))
              refine wl_nil ?_
              refine ex_seq ?_
              refine cw_split rfl (fun cc28 => ?_) (fun cc28 => ?_)
              · skip
                replace h := bt cc28 h
                refine cw_region ?_
                refine wl_u rfl (ow_y (yh_loadBA Tb (k := 0) rfl rfl rfl rfl rfl rfl) rfl rfl (kk_wl ?_))
                refine wl_u rfl (ow_storeA Tb (k := 7) rfl rfl rfl rfl rfl rfl rfl rfl rfl (kk_wl ?_))
                refine wl_nil ?_
                refine ex_seq ?_
                refine cw_seq ?_
                refine cw_region ?_
                refine wl_u rfl (ow_y (yh_move rfl rfl) rfl rfl (kk_wl ?_))
                refine wl_u rfl (ow_y (yh_move rfl rfl) rfl rfl (kk_wl ?_))
                refine wl_s rfl rfl (fun _ => ?_) (fun hc => Bool.noConfusion (cc28.symm.trans hc))
                refine wl_n rfl rfl rfl rfl ?_
                refine wl_n rfl rfl rfl rfl ?_
                refine wl_n rfl rfl rfl rfl ?_
                refine wl_u rfl (ow_y (yh_pickT rfl rfl rfl) rfl rfl (kk_wl ?_))
                refine wl_nil ?_
                refine ex_seq ?_
                refine cw_true rfl ?_
                refine cw_region ?_
                refine wl_u rfl (ow_y (yh_move rfl rfl) rfl rfl (kk_wl ?_))
                refine wl_u rfl (ow_y (yh_loadBA Tb (k := 3) rfl rfl rfl rfl rfl rfl) rfl rfl (kk_wl ?_))
                refine wl_u rfl (ow_litA Tb rfl rfl rfl rfl rfl rfl (by decide) rfl rfl (fun g2045 => kk_wl ?_))
                obtain ⟨hll2046, h⟩ := bd_appd h
                refine wl_u rfl (ow_chg (c' := owC changeL F2028 [.int .i64 x2028.1.kind, .string x2028.1.step.name, .slice a2028 x2028.1.step.after.length c2028, .bool x2028.1.step.undo] x2028.1) 5 rfl (fun w hA => changeL_mk x2028.1 hA) rfl (ow_appE Tb (i := 7) (j := 0) (k := 1) rfl rfl rfl rfl rfl rfl rfl rfl rfl rfl rfl (app1 hll2046) (by decide) rfl rfl (fun a2046 c2046 F2046 => kk_wl ?_)))
                refine wl_u rfl (ow_y (yh_assign rfl rfl) rfl rfl (kk_wl ?_))
                refine wl_nil ?_
                refine ex_block_normal ?_
                refine ex_seq ?_
                refine cw_region ?_
                refine wl_u rfl (ow_y (yh_move rfl rfl) rfl rfl (kk_wl ?_))
                refine wl_u rfl (ow_y (yh_arI rfl rfl rfl rfl (by omega)) rfl rfl (kk_wl ?_))
                refine wl_u rfl (ow_y (yh_assign rfl rfl) rfl rfl (kk_wl ?_))
                refine wl_nil ?_
                refine ex_unroll ?_
                refine cw_seq ?_
                refine cw_seq ?_
                refine cw_region ?_
                refine wl_u rfl (ow_y (yh_move rfl rfl) rfl rfl (kk_wl ?_))
                refine wl_u rfl (ow_y (yh_move rfl rfl) rfl rfl (kk_wl ?_))
                refine wl_u rfl (ow_y (yh_cmpI rfl rfl rfl rfl) rfl rfl (kk_wl ?_))
                refine wl_nil ?_
                refine ex_seq ?_
                refine cw_split rfl (fun cc29 => ?_) (fun cc29 => ?_)
                · skip
                  replace h := bt cc29 h
                  exact nosome h
                · skip
                  replace h := bf cc29 h
                  have q40 := ltb_false.1 cc29
                  refine cw_exit ?_
                  refine ex_then_exit ?_
                  refine ex_then_exit ?_
                  refine ex_block_exit ?_
                  refine ex_seq ?_
                  refine cw_seq ?_
                  refine cw_region ?_
                  refine wl_u rfl (ow_y (yh_loadBA Tb (k := 15) rfl rfl rfl rfl rfl rfl) rfl rfl (kk_wl ?_))
                  refine wl_u rfl (ow_y (yh_move rfl rfl) rfl rfl (kk_wl ?_))
                  refine wl_u rfl (ow_storeA Tb (k := 17) rfl rfl rfl rfl rfl rfl rfl rfl rfl (kk_wl ?_))
                  refine wl_u rfl (ow_y (yh_assign rfl rfl) rfl rfl (kk_wl ?_))
                  refine wl_nil ?_
                  refine ex_seq ?_
                  refine cw_ret ?_
                  obtain rfl := Option.some.inj h
                  exact ex_r2 Tb rfl (.cellA 0 rfl rfl rfl rfl rfl) (.tmp rfl) (fun wq hq => ⟨_, rfl, hq.ext, ⟨a16, c16, F16, a2046, c2046, F2046, rfl, NewC.sel [17, 1] hq rfl⟩⟩)
              · skip
                replace h := bf cc28 h
                refine cw_skip ?_
                refine ex_seq ?_
                refine cw_seq ?_
                refine cw_region ?_
                refine wl_u rfl (ow_y (yh_move rfl rfl) rfl rfl (kk_wl ?_))
                refine wl_u rfl (ow_y (yh_move rfl rfl) rfl rfl (kk_wl ?_))
                refine wl_s rfl rfl (fun hc => Bool.noConfusion (cc28.symm.trans hc)) (fun _ => ?_)
                refine wl_g rfl rfl (ow_y (yh_move rfl rfl) rfl rfl (kk_wl ?_))
                obtain ⟨x2040, hx2040, h⟩ := bd h
                have mp2040 := pick_lt hx2040 (by decide)
                refine wl_g rfl rfl (ow_cM0 4 rfl hb45 rfl rfl (fun w hw => c_spec_l6Rd_pick N _ _ _ _ hx2040 w (hw.at (i := 4) rfl) (Lay.atR (i := 4) hf14 rfl hw)) rfl rfl (kk_wl ?_))
                refine wl_g rfl rfl (ow_y (yh_cmpI rfl rfl rfl rfl) rfl rfl (kk_wl ?_))
                refine wl_u rfl (ow_y (yh_pickF rfl rfl rfl) rfl rfl (kk_wl ?_))
                refine wl_nil ?_
                refine ex_seq ?_
                refine cw_split rfl (fun cc30 => ?_) (fun cc30 => ?_)
                · skip
                  replace h := bt cc30 h
                  have q41 := eqb_true.1 cc30
                  refine cw_region ?_
                  refine wl_u rfl (ow_y (yh_move rfl rfl) rfl rfl (kk_wl ?_))
                  refine wl_u rfl (ow_y (yh_loadBA Tb (k := 3) rfl rfl rfl rfl rfl rfl) rfl rfl (kk_wl ?_))
                  refine wl_u rfl (ow_litA Tb rfl rfl rfl rfl rfl rfl (by decide) rfl rfl (fun g2045 => kk_wl ?_))
                  obtain ⟨hll2046, h⟩ := bd_appd h
                  refine wl_u rfl (ow_chg (c' := owC changeL F2028 [.int .i64 x2028.1.kind, .string x2028.1.step.name, .slice a2028 x2028.1.step.after.length c2028, .bool x2028.1.step.undo] x2028.1) 5 rfl (fun w hA => changeL_mk x2028.1 hA) rfl (ow_appE Tb (i := 6) (j := 0) (k := 1) rfl rfl rfl rfl rfl rfl rfl rfl rfl rfl rfl (app1 hll2046) (by decide) rfl rfl (fun a2046 c2046 F2046 => kk_wl ?_)))
                  refine wl_u rfl (ow_y (yh_assign rfl rfl) rfl rfl (kk_wl ?_))
                  refine wl_nil ?_
                  refine ex_block_normal ?_
                  refine ex_seq ?_
                  refine cw_region ?_
                  refine wl_u rfl (ow_y (yh_move rfl rfl) rfl rfl (kk_wl ?_))
                  refine wl_u rfl (ow_y (yh_arI rfl rfl rfl rfl (by omega)) rfl rfl (kk_wl ?_))
                  refine wl_u rfl (ow_y (yh_assign rfl rfl) rfl rfl (kk_wl ?_))
                  refine wl_nil ?_
                  refine ex_unroll ?_
                  refine cw_seq ?_
                  refine cw_seq ?_
                  refine cw_region ?_
                  refine wl_u rfl (ow_y (yh_move rfl rfl) rfl rfl (kk_wl ?_))
                  refine wl_u rfl (ow_y (yh_move rfl rfl) rfl rfl (kk_wl ?_))
                  refine wl_u rfl (ow_y (yh_cmpI rfl rfl rfl rfl) rfl rfl (kk_wl ?_))
                  refine wl_nil ?_
                  refine ex_seq ?_
                  refine cw_split rfl (fun cc31 => ?_) (fun cc31 => ?_)
                  · skip
                    replace h := bt cc31 h
                    exact nosome h
                  · skip
                    replace h := bf cc31 h
                    have q43 := ltb_false.1 cc31
                    refine cw_exit ?_
                    refine ex_then_exit ?_
                    refine ex_then_exit ?_
                    refine ex_block_exit ?_
                    refine ex_seq ?_
                    refine cw_seq ?_
                    refine cw_region ?_
                    refine wl_u rfl (ow_y (yh_loadBA Tb (k := 15) rfl rfl rfl rfl rfl rfl) rfl rfl (kk_wl ?_))
                    refine wl_u rfl (ow_y (yh_move rfl rfl) rfl rfl (kk_wl ?_))
                    refine wl_u rfl (ow_storeA Tb (k := 17) rfl rfl rfl rfl rfl rfl rfl rfl rfl (kk_wl ?_))
                    refine wl_u rfl (ow_y (yh_assign rfl rfl) rfl rfl (kk_wl ?_))
                    refine wl_nil ?_
                    refine ex_seq ?_
                    refine cw_ret ?_
                    obtain rfl := Option.some.inj h
                    exact ex_r2 Tb rfl (.cellA 0 rfl rfl rfl rfl rfl) (.tmp rfl) (fun wq hq => ⟨_, rfl, hq.ext, ⟨a16, c16, F16, a2046, c2046, F2046, rfl, NewC.sel [17, 1] hq rfl⟩⟩)
                · skip
                  replace h := bf cc30 h
                  have q44 := eqb_false.1 cc30
                  refine cw_skip ?_
                  refine ex_block_normal ?_
                  refine ex_seq ?_
                  refine cw_region ?_
                  refine wl_u rfl (ow_y (yh_move rfl rfl) rfl rfl (kk_wl ?_))
                  refine wl_u rfl (ow_y (yh_arI rfl rfl rfl rfl (by omega)) rfl rfl (kk_wl ?_))
                  refine wl_u rfl (ow_y (yh_assign rfl rfl) rfl rfl (kk_wl ?_))
                  refine wl_nil ?_
                  refine ex_unroll ?_
                  refine cw_seq ?_
                  refine cw_seq ?_
                  refine cw_region ?_
                  refine wl_u rfl (ow_y (yh_move rfl rfl) rfl rfl (kk_wl ?_))
                  refine wl_u rfl (ow_y (yh_move rfl rfl) rfl rfl (kk_wl ?_))
                  refine wl_u rfl (ow_y (yh_cmpI rfl rfl rfl rfl) rfl rfl (kk_wl ?_))
                  refine wl_nil ?_
                  refine ex_seq ?_
                  refine cw_split rfl (fun cc32 => ?_) (fun cc32 => ?_)
                  · skip
                    replace h := bt cc32 h
                    exact nosome h
                  · skip
                    replace h := bf cc32 h
                    have q46 := ltb_false.1 cc32
                    refine cw_exit ?_
                    refine ex_then_exit ?_
                    refine ex_then_exit ?_
                    refine ex_block_exit ?_
                    refine ex_seq ?_
                    refine cw_seq ?_
                    refine cw_region ?_
                    refine wl_u rfl (ow_y (yh_loadBA Tb (k := 15) rfl rfl rfl rfl rfl rfl) rfl rfl (kk_wl ?_))
                    refine wl_u rfl (ow_y (yh_move rfl rfl) rfl rfl (kk_wl ?_))
                    refine wl_u rfl (ow_storeA Tb (k := 17) rfl rfl rfl rfl rfl rfl rfl rfl rfl (kk_wl ?_))
                    refine wl_u rfl (ow_y (yh_assign rfl rfl) rfl rfl (kk_wl ?_))
                    refine wl_nil ?_
                    refine ex_seq ?_
                    refine cw_ret ?_
                    obtain rfl := Option.some.inj h
                    exact ex_r2 Tb rfl (.cellA 0 rfl rfl rfl rfl rfl) (.tmp rfl) (fun wq hq => ⟨_, rfl, hq.ext, ⟨a16, c16, F16, a1046, c1046, F1046, rfl, NewC.sel [17, 6] hq rfl⟩⟩)
            · skip
              replace h := bf cc27 h
              have q47 := ltb_false.1 cc27
              refine cw_exit ?_
              refine ex_then_exit ?_
              refine ex_then_exit ?_
              refine ex_block_exit ?_
              refine ex_seq ?_
              refine cw_seq ?_
              refine cw_region ?_
              refine wl_u rfl (ow_y (yh_loadBA Tb (k := 11) rfl rfl rfl rfl rfl rfl) rfl rfl (kk_wl ?_))
              refine wl_u rfl (ow_y (yh_move rfl rfl) rfl rfl (kk_wl ?_))
              refine wl_u rfl (ow_storeA Tb (k := 13) rfl rfl rfl rfl rfl rfl rfl rfl rfl (kk_wl ?_))
              refine wl_u rfl (ow_y (yh_assign rfl rfl) rfl rfl (kk_wl ?_))
              refine wl_nil ?_
              refine ex_seq ?_
              refine cw_ret ?_
              obtain rfl := Option.some.inj h
              exact ex_r2 Tb rfl (.cellA 0 rfl rfl rfl rfl rfl) (.tmp rfl) (fun wq hq => ⟨_, rfl, hq.ext, ⟨a16, c16, F16, a1046, c1046, F1046, rfl, NewC.sel [13, 1] hq rfl⟩⟩)
          · skip
            replace h := bf cc26 h
            refine cw_skip ?_
            refine ex_seq ?_
            refine cw_seq ?_
            refine cw_region ?_
            refine wl_u rfl (ow_y (yh_move rfl rfl) rfl rfl (kk_wl ?_))
            refine wl_u rfl (ow_y (yh_move rfl rfl) rfl rfl (kk_wl ?_))
            refine wl_s rfl rfl (fun hc => Bool.noConfusion (cc26.symm.trans hc)) (fun _ => ?_)
            refine wl_g rfl rfl (ow_y (yh_move rfl rfl) rfl rfl (kk_wl ?_))
            obtain ⟨x1040, hx1040, h⟩ := bd h
            have mp1040 := pick_lt hx1040 (by decide)
            refine wl_g rfl rfl (ow_cM0 4 rfl hb45 rfl rfl (fun w hw => c_spec_l6Rd_pick N _ _ _ _ hx1040 w (hw.at (i := 4) rfl) (Lay.atR (i := 4) hf14 rfl hw)) rfl rfl (kk_wl ?_))
            refine wl_g rfl rfl (ow_y (yh_cmpI rfl rfl rfl rfl) rfl rfl (kk_wl ?_))
            refine wl_u rfl (ow_y (yh_pickF rfl rfl rfl) rfl rfl (kk_wl ?_))
            refine wl_nil ?_
            refine ex_seq ?_
            refine cw_split rfl (fun cc33 => ?_) (fun cc33 => ?_)
            · skip
              replace h := bt cc33 h
              have q48 := eqb_true.1 cc33
              refine cw_region ?_
              refine wl_u rfl (ow_y (yh_move rfl rfl) rfl rfl (kk_wl ?_))
              refine wl_u rfl (ow_y (yh_loadBA Tb (k := 3) rfl rfl rfl rfl rfl rfl) rfl rfl (kk_wl ?_))
              refine wl_u rfl (ow_litA Tb rfl rfl rfl rfl rfl rfl (by decide) rfl rfl (fun g1045 => kk_wl ?_))
              obtain ⟨hll1046, h⟩ := bd_appd h
              refine wl_u rfl (ow_chg (c' := owC changeL F1028 [.int .i64 x1028.1.kind, .string x1028.1.step.name, .slice a1028 x1028.1.step.after.length c1028, .bool x1028.1.step.undo] x1028.1) 5 rfl (fun w hA => changeL_mk x1028.1 hA) rfl (ow_appE Tb (i := 6) (j := 0) (k := 1) rfl rfl rfl rfl rfl rfl rfl rfl rfl rfl rfl (app1 hll1046) (by decide) rfl rfl (fun a1046 c1046 F1046 => kk_wl ?_)))
              refine wl_u rfl (ow_y (yh_assign rfl rfl) rfl rfl (kk_wl ?_))
              refine wl_nil ?_
              refine ex_block_normal ?_
              refine ex_seq ?_
              refine cw_region ?_
              refine wl_u rfl (ow_y (yh_move rfl rfl) rfl rfl (kk_wl ?_))
              refine wl_u rfl (ow_y (yh_arI rfl rfl rfl rfl (by omega)) rfl rfl (kk_wl ?_))
              refine wl_u rfl (ow_y (yh_assign rfl rfl) rfl rfl (kk_wl ?_))
              refine wl_nil ?_
              refine ex_unroll ?_
              refine cw_seq ?_
              refine cw_seq ?_
              refine cw_region ?_
              refine wl_u rfl (ow_y (yh_move rfl rfl) rfl rfl (kk_wl ?_))
              refine wl_u rfl (ow_y (yh_move rfl rfl) rfl rfl (kk_wl ?_))
              refine wl_u rfl (ow_y (yh_cmpI rfl rfl rfl rfl) rfl rfl (kk_wl ?_))
              refine wl_nil ?_
              refine ex_seq ?_
              refine cw_split rfl (fun cc34 => ?_) (fun cc34 => ?_)
              · skip
                replace h := bt cc34 h
                have q49 := ltb_true.1 cc34
                refine cw_skip ?_
                refine ex_seq ?_
                refine cw_seq ?_
                refine cw_block ?_
                refine cw_seq ?_
                refine cw_region ?_
                refine wl_u rfl (ow_y (yh_move rfl rfl) rfl rfl (kk_wl ?_))
                refine wl_u rfl (ow_y (yh_loadBA Tb (k := 10) rfl rfl rfl rfl rfl rfl) rfl rfl (kk_wl ?_))
                obtain ⟨x2028, hx2028, h⟩ := bd h
                refine wl_u rfl (ow_cM1 2 rfl hb27 rfl rfl (fun w hw => c_spec_l92Change N _ _ _ _ hx2028 w (hw.at (i := 2) rfl) (Lay.atR (i := 2) hf14 rfl hw) (rdoR (A := stepsL) 12 2 rfl rfl rfl hw)) rfl rfl (fun a2028 c2028 F2028 => kk_wl ?_))
                refine wl_u rfl (ow_allocA Tb rfl rfl rfl rfl (fun g2010 => kk_wl ?_))
                refine wl_u rfl (ow_storeA Tb (k := 0) rfl rfl rfl rfl rfl rfl rfl rfl rfl (kk_wl ?_))
                refine wl_nil ?_
                refine ex_seq ?_
                refine cw_seq ?_
                refine cw_region ?_
                refine wl_u rfl (ow_y (yh_loadBA Tb (k := 12) rfl rfl rfl rfl rfl rfl) rfl rfl (kk_wl ?_))
                refine wl_u rfl (ow_y (yh_loadBA Tb (k := 0) rfl rfl rfl rfl rfl rfl) rfl rfl (kk_wl ?_))
                obtain ⟨x2032, hx2032, h⟩ := bd h
                refine wl_u rfl (ow_cN1 rfl hb9 rfl (fun w hw => c_spec_FlowChange N _ _ _ hx2032 w (rdo (A := stepsL) 14 rfl hw) (rdo (A := strsL) 1 rfl hw)) rfl rfl (fun a2032 c2032 F2032 => kk_wl ?_))
                refine wl_u rfl (ow_y (yh_move rfl rfl) rfl rfl (kk_wl ?_))
                refine wl_u rfl (ow_y (yh_extract rfl rfl rfl) rfl rfl (kk_wl ?_))
                refine wl_u rfl (ow_y (yh_extract rfl rfl rfl) rfl rfl (kk_wl ?_))
                refine wl_u rfl (ow_allocA Tb rfl rfl rfl rfl (fun g2011 => kk_wl ?_))
                refine wl_u rfl (ow_storeA Tb (k := 0) rfl rfl rfl rfl rfl rfl rfl rfl rfl (kk_wl ?_))
                refine wl_u rfl (ow_y (yh_assign rfl rfl) rfl rfl (kk_wl ?_))
                refine wl_nil ?_
                refine ex_seq ?_
                refine cw_seq ?_
                refine cw_seq ?_
                refine cw_region ?_
                refine wl_u rfl (ow_y (yh_move rfl rfl) rfl rfl (kk_wl ?_))
                refine wl_nil ?_
                refine ex_seq ?_
                refine cw_split rfl (fun cc35 => ?_) (fun cc35 => ?_)
                · skip
                  replace h := bt cc35 h
                  refine cw_region ?_
                  refine wl_u rfl (ow_y (yh_loadBA Tb (k := 0) rfl rfl rfl rfl rfl rfl) rfl rfl (kk_wl ?_))
                  refine wl_u rfl (ow_storeA Tb (k := 14) rfl rfl rfl rfl rfl rfl rfl rfl rfl (kk_wl ?_))
                  refine wl_nil ?_
                  refine ex_seq ?_
                  refine cw_seq ?_
                  refine cw_region ?_
                  refine wl_u rfl (ow_y (yh_move rfl rfl) rfl rfl (kk_wl ?_))
                  refine wl_u rfl (ow_y (yh_move rfl rfl) rfl rfl (kk_wl ?_))
                  refine wl_s rfl rfl (fun _ => ?_) (fun hc => Bool.noConfusion (cc35.symm.trans hc))
                  refine wl_n rfl rfl rfl rfl ?_
                  refine wl_n rfl rfl rfl rfl ?_
                  refine wl_n rfl rfl rfl rfl ?_
                  refine wl_u rfl (ow_y (yh_pickT rfl rfl rfl) rfl rfl (kk_wl ?_))
                  refine wl_nil ?_
                  refine ex_seq ?_
                  refine cw_true rfl ?_
                  refine cw_region ?_
                  refine wl_u rfl (ow_y (yh_move rfl rfl) rfl rfl (kk_wl ?_))
                  refine wl_u rfl (ow_y (yh_loadBA Tb (k := 3) rfl rfl rfl rfl rfl rfl) rfl rfl (kk_wl ?_))
                  refine wl_u rfl (ow_litA Tb rfl rfl rfl rfl rfl rfl (by decide) rfl rfl (fun g2045 => kk_wl ?_))
                  obtain ⟨hll2046, h⟩ := bd_appd h
                  refine wl_u rfl (ow_chg (c' := owC changeL F2028 [.int .i64 x2028.1.kind, .string x2028.1.step.name, .slice a2028 x2028.1.step.after.length c2028, .bool x2028.1.step.undo] x2028.1) 5 rfl (fun w hA => changeL_mk x2028.1 hA) rfl (ow_appE Tb (i := 7) (j := 0) (k := 1) rfl rfl rfl rfl rfl rfl rfl rfl rfl rfl rfl (app1 hll2046) (by decide) rfl rfl (fun a2046 c2046 F2046 => kk_wl ?_)))
                  refine wl_u rfl (ow_y (yh_assign rfl rfl) rfl rfl (kk_wl ?_))
                  refine wl_nil ?_
                  refine ex_block_normal ?_
                  refine ex_seq ?_
                  refine cw_region ?_
                  refine wl_u rfl (ow_y (yh_move rfl rfl) rfl rfl (kk_wl ?_))
                  refine wl_u rfl (ow_y (yh_arI rfl rfl rfl rfl (by omega)) rfl rfl (kk_wl ?_))
                  refine wl_u rfl (ow_y (yh_assign rfl rfl) rfl rfl (kk_wl ?_))
                  refine wl_nil ?_
                  refine ex_unroll ?_
                  refine cw_seq ?_
                  refine cw_seq ?_
                  refine cw_region ?_
                  refine wl_u rfl (ow_y (yh_move rfl rfl) rfl rfl (kk_wl ?_))
                  refine wl_u rfl (ow_y (yh_move rfl rfl) rfl rfl (kk_wl ?_))
                  refine wl_u rfl (ow_y (yh_cmpI rfl rfl rfl rfl) rfl rfl (kk_wl ?_))
                  refine wl_nil ?_
                  refine ex_seq ?_
                  refine cw_split rfl (fun cc36 => ?_) (fun cc36 => ?_)
                  · skip
                    replace h := bt cc36 h
                    exact nosome h
                  · skip
                    replace h := bf cc36 h
                    have q51 := ltb_false.1 cc36
                    refine cw_exit ?_
                    refine ex_then_exit ?_
                    refine ex_then_exit ?_
                    refine ex_block_exit ?_
                    refine ex_seq ?_
                    refine cw_seq ?_
                    refine cw_region ?_
                    refine wl_u rfl (ow_y (yh_loadBA Tb (k := 15) rfl rfl rfl rfl rfl rfl) rfl rfl (kk_wl ?_))
                    refine wl_u rfl (ow_y (yh_move rfl rfl) rfl rfl (kk_wl ?_))
                    refine wl_u rfl (ow_storeA Tb (k := 17) rfl rfl rfl rfl rfl rfl rfl rfl rfl (kk_wl ?_))
                    refine wl_u rfl (ow_y (yh_assign rfl rfl) rfl rfl (kk_wl ?_))
                    refine wl_nil ?_
                    refine ex_seq ?_
                    refine cw_ret ?_
                    obtain rfl := Option.some.inj h
                    exact ex_r2 Tb rfl (.cellA 0 rfl rfl rfl rfl rfl) (.tmp rfl) (fun wq hq => ⟨_, rfl, hq.ext, ⟨a16, c16, F16, a2046, c2046, F2046, rfl, NewC.sel [17, 1] hq rfl⟩⟩)
                · skip
                  replace h := bf cc35 h
                  refine cw_skip ?_
                  refine ex_seq ?_
                  refine cw_seq ?_
                  refine cw_region ?_
                  refine wl_u rfl (ow_y (yh_move rfl rfl) rfl rfl (kk_wl ?_))
                  refine wl_u rfl (ow_y (yh_move rfl rfl) rfl rfl (kk_wl ?_))
                  refine wl_s rfl rfl (fun hc => Bool.noConfusion (cc35.symm.trans hc)) (fun _ => ?_)
                  refine wl_g rfl rfl (ow_y (yh_move rfl rfl) rfl rfl (kk_wl ?_))
                  obtain ⟨x2040, hx2040, h⟩ := bd h
                  have mp2040 := pick_lt hx2040 (by decide)
                  refine wl_g rfl rfl (ow_cM0 4 rfl hb45 rfl rfl (fun w hw => c_spec_l6Rd_pick N _ _ _ _ hx2040 w (hw.at (i := 4) rfl) (Lay.atR (i := 4) hf14 rfl hw)) rfl rfl (kk_wl ?_))
                  refine wl_g rfl rfl (ow_y (yh_cmpI rfl rfl rfl rfl) rfl rfl (kk_wl ?_))
                  refine wl_u rfl (ow_y (yh_pickF rfl rfl rfl) rfl rfl (kk_wl ?_))
                  refine wl_nil ?_
                  refine ex_seq ?_
                  refine cw_split rfl (fun cc37 => ?_) (fun cc37 => ?_)
                  · skip
                    replace h := bt cc37 h
                    have q52 := eqb_true.1 cc37
                    refine cw_region ?_
                    refine wl_u rfl (ow_y (yh_move rfl rfl) rfl rfl (kk_wl ?_))
                    refine wl_u rfl (ow_y (yh_loadBA Tb (k := 3) rfl rfl rfl rfl rfl rfl) rfl rfl (kk_wl ?_))
                    refine wl_u rfl (ow_litA Tb rfl rfl rfl rfl rfl rfl (by decide) rfl rfl (fun g2045 => kk_wl ?_))
                    obtain ⟨hll2046, h⟩ := bd_appd h
                    refine wl_u rfl (ow_chg (c' := owC changeL F2028 [.int .i64 x2028.1.kind, .string x2028.1.step.name, .slice a2028 x2028.1.step.after.length c2028, .bool x2028.1.step.undo] x2028.1) 5 rfl (fun w hA => changeL_mk x2028.1 hA) rfl (ow_appE Tb (i := 6) (j := 0) (k := 1) rfl rfl rfl rfl rfl rfl rfl rfl rfl rfl rfl (app1 hll2046) (by decide) rfl rfl (fun a2046 c2046 F2046 => kk_wl ?_)))
                    refine wl_u rfl (ow_y (yh_assign rfl rfl) rfl rfl (kk_wl ?_))
                    refine wl_nil ?_
                    refine ex_block_normal ?_
                    refine ex_seq ?_
                    refine cw_region ?_
                    refine wl_u rfl (ow_y (yh_move rfl rfl) rfl rfl (kk_wl ?_))
                    refine wl_u rfl (ow_y (yh_arI rfl rfl rfl rfl (by omega)) rfl rfl (kk_wl ?_))
                    refine wl_u rfl (ow_y (yh_assign rfl rfl) rfl rfl (kk_wl ?_))
                    refine wl_nil ?_
                    refine ex_unroll ?_
                    refine cw_seq ?_
                    refine cw_seq ?_
                    refine cw_region ?_
                    refine wl_u rfl (ow_y (yh_move rfl rfl) rfl rfl (kk_wl ?_))
                    refine wl_u rfl (ow_y (yh_move rfl rfl) rfl rfl (kk_wl ?_))
                    refine wl_u rfl (ow_y (yh_cmpI rfl rfl rfl rfl) rfl rfl (kk_wl ?_))
                    refine wl_nil ?_
                    refine ex_seq ?_
                    refine cw_split rfl (fun cc38 => ?_) (fun cc38 => ?_)
                    · skip
                      replace h := bt cc38 h
                      exact nosome h
                    · skip
                      replace h := bf cc38 h
                      have q54 := ltb_false.1 cc38
                      refine cw_exit ?_
                      refine ex_then_exit ?_
                      refine ex_then_exit ?_
                      refine ex_block_exit ?_
                      refine ex_seq ?_
                      refine cw_seq ?_
                      refine cw_region ?_
                      refine wl_u rfl (ow_y (yh_loadBA Tb (k := 15) rfl rfl rfl rfl rfl rfl) rfl rfl (kk_wl ?_))
                      refine wl_u rfl (ow_y (yh_move rfl rfl) rfl rfl (kk_wl ?_))
                      refine wl_u rfl (ow_storeA Tb (k := 17) rfl rfl rfl rfl rfl rfl rfl rfl rfl (kk_wl ?_))
                      refine wl_u rfl (ow_y (yh_assign rfl rfl) rfl rfl (kk_wl ?_))
                      refine wl_nil ?_
                      refine ex_seq ?_
                      refine cw_ret ?_
                      obtain rfl := Option.some.inj h
                      exact ex_r2 Tb rfl (.cellA 0 rfl rfl rfl rfl rfl) (.tmp rfl) (fun wq hq => ⟨_, rfl, hq.ext, ⟨a16, c16, F16, a2046, c2046, F2046, rfl, NewC.sel [17, 1] hq rfl⟩⟩)
                  · skip
                    replace h := bf cc37 h
                    have q55 := eqb_false.1 cc37
                    refine cw_skip ?_
                    refine ex_block_normal ?_
                    refine ex_seq ?_
                    refine cw_region ?_
                    refine wl_u rfl (ow_y (yh_move rfl rfl) rfl rfl (kk_wl ?_))
                    refine wl_u rfl (ow_y (yh_arI rfl rfl rfl rfl (by omega)) rfl rfl (kk_wl ?_))
                    refine wl_u rfl (ow_y (yh_assign rfl rfl) rfl rfl (kk_wl ?_))
                    refine wl_nil ?_
                    refine ex_unroll ?_
                    refine cw_seq ?_
                    refine cw_seq ?_
                    refine cw_region ?_
                    refine wl_u rfl (ow_y (yh_move rfl rfl) rfl rfl (kk_wl ?_))
                    refine wl_u rfl (ow_y (yh_move rfl rfl) rfl rfl (kk_wl ?_))
                    refine wl_u rfl (ow_y (yh_cmpI rfl rfl rfl rfl) rfl rfl (kk_wl ?_))
                    refine wl_nil ?_
                    refine ex_seq ?_
                    refine cw_split rfl (fun cc39 => ?_) (fun cc39 => ?_)
                    · skip
                      replace h := bt cc39 h
                      exact nosome h
                    · skip
                      replace h := bf cc39 h
                      have q57 := ltb_false.1 cc39
                      refine cw_exit ?_
                      refine ex_then_exit ?_
                      refine ex_then_exit ?_
                      refine ex_block_exit ?_
                      refine ex_seq ?_
                      refine cw_seq ?_
                      refine cw_region ?_
                      refine wl_u rfl (ow_y (yh_loadBA Tb (k := 15) rfl rfl rfl rfl rfl rfl) rfl rfl (kk_wl ?_))
                      refine wl_u rfl (ow_y (yh_move rfl rfl) rfl rfl (kk_wl ?_))
                      refine wl_u rfl (ow_storeA Tb (k := 17) rfl rfl rfl rfl rfl rfl rfl rfl rfl (kk_wl ?_))
                      refine wl_u rfl (ow_y (yh_assign rfl rfl) rfl rfl (kk_wl ?_))
                      refine wl_nil ?_
                      refine ex_seq ?_
                      refine cw_ret ?_
                      obtain rfl := Option.some.inj h
                      exact ex_r2 Tb rfl (.cellA 0 rfl rfl rfl rfl rfl) (.tmp rfl) (fun wq hq => ⟨_, rfl, hq.ext, ⟨a16, c16, F16, a1046, c1046, F1046, rfl, NewC.sel [17, 6] hq rfl⟩⟩)
              · skip
                replace h := bf cc34 h
                have q58 := ltb_false.1 cc34
                refine cw_exit ?_
                refine ex_then_exit ?_
                refine ex_then_exit ?_
                refine ex_block_exit ?_
                refine ex_seq ?_
                refine cw_seq ?_
                refine cw_region ?_
                refine wl_u rfl (ow_y (yh_loadBA Tb (k := 11) rfl rfl rfl rfl rfl rfl) rfl rfl (kk_wl ?_))
                refine wl_u rfl (ow_y (yh_move rfl rfl) rfl rfl (kk_wl ?_))
                refine wl_u rfl (ow_storeA Tb (k := 13) rfl rfl rfl rfl rfl rfl rfl rfl rfl (kk_wl ?_))
                refine wl_u rfl (ow_y (yh_assign rfl rfl) rfl rfl (kk_wl ?_))
                refine wl_nil ?_
                refine ex_seq ?_
                refine cw_ret ?_
                obtain rfl := Option.some.inj h
                exact ex_r2 Tb rfl (.cellA 0 rfl rfl rfl rfl rfl) (.tmp rfl) (fun wq hq => ⟨_, rfl, hq.ext, ⟨a16, c16, F16, a1046, c1046, F1046, rfl, NewC.sel [13, 1] hq rfl⟩⟩)
            · skip
              replace h := bf cc33 h
              have q59 := eqb_false.1 cc33
              refine cw_skip ?_
              refine ex_block_normal ?_
              refine ex_seq ?_
              refine cw_region ?_
              refine wl_u rfl (ow_y (yh_move rfl rfl) rfl rfl (kk_wl ?_))
              refine wl_u rfl (ow_y (yh_arI rfl rfl rfl rfl (by omega)) rfl rfl (kk_wl ?_))
              refine wl_u rfl (ow_y (yh_assign rfl rfl) rfl rfl (kk_wl ?_))
              refine wl_nil ?_
              refine ex_unroll ?_
              refine cw_seq ?_
              refine cw_seq ?_
              refine cw_region ?_
              refine wl_u rfl (ow_y (yh_move rfl rfl) rfl rfl (kk_wl ?_))
              refine wl_u rfl (ow_y (yh_move rfl rfl) rfl rfl (kk_wl ?_))
              refine wl_u rfl (ow_y (yh_cmpI rfl rfl rfl rfl) rfl rfl (kk_wl ?_))
              refine wl_nil ?_
              refine ex_seq ?_
              refine cw_split rfl (fun cc40 => ?_) (fun cc40 => ?_)
              · skip
                replace h := bt cc40 h
                have q60 := ltb_true.1 cc40
                refine cw_skip ?_
                refine ex_seq ?_
                refine cw_seq ?_
                refine cw_block ?_
                refine cw_seq ?_
                refine cw_region ?_
                refine wl_u rfl (ow_y (yh_move rfl rfl) rfl rfl (kk_wl ?_))
                refine wl_u rfl (ow_y (yh_loadBA Tb (k := 10) rfl rfl rfl rfl rfl rfl) rfl rfl (kk_wl ?_))
                obtain ⟨x2028, hx2028, h⟩ := bd h
                refine wl_u rfl (ow_cM1 0 rfl hb27 rfl rfl (fun w hw => c_spec_l92Change N _ _ _ _ hx2028 w (hw.at (i := 0) rfl) (Lay.atR (i := 0) hf14 rfl hw) (rdoR (A := stepsL) 12 0 rfl rfl rfl hw)) rfl rfl (fun a2028 c2028 F2028 => kk_wl ?_))
                refine wl_u rfl (ow_allocA Tb rfl rfl rfl rfl (fun g2010 => kk_wl ?_))
                refine wl_u rfl (ow_storeA Tb (k := 0) rfl rfl rfl rfl rfl rfl rfl rfl rfl (kk_wl ?_))
                refine wl_nil ?_
                refine ex_seq ?_
                refine cw_seq ?_
                refine cw_region ?_
                refine wl_u rfl (ow_y (yh_loadBA Tb (k := 12) rfl rfl rfl rfl rfl rfl) rfl rfl (kk_wl ?_))
                refine wl_u rfl (ow_y (yh_loadBA Tb (k := 0) rfl rfl rfl rfl rfl rfl) rfl rfl (kk_wl ?_))
                obtain ⟨x2032, hx2032, h⟩ := bd h
                refine wl_u rfl (ow_cN1 rfl hb9 rfl (fun w hw => c_spec_FlowChange N _ _ _ hx2032 w (rdo (A := stepsL) 14 rfl hw) (rdo (A := strsL) 1 rfl hw)) rfl rfl (fun a2032 c2032 F2032 => kk_wl ?_))
                refine wl_u rfl (ow_y (yh_move rfl rfl) rfl rfl (kk_wl ?_))
                refine wl_u rfl (ow_y (yh_extract rfl rfl rfl) rfl rfl (kk_wl ?_))
                refine wl_u rfl (ow_y (yh_extract rfl rfl rfl) rfl rfl (kk_wl ?_))
                refine wl_u rfl (ow_allocA Tb rfl rfl rfl rfl (fun g2011 => kk_wl ?_))
                refine wl_u rfl (ow_storeA Tb (k := 0) rfl rfl rfl rfl rfl rfl rfl rfl rfl (kk_wl ?_))
                refine wl_u rfl (ow_y (yh_assign rfl rfl) rfl rfl (kk_wl ?_))
                refine wl_nil ?_
                refine ex_seq ?_
                refine cw_seq ?_
                refine cw_seq ?_
                refine cw_region ?_
                refine wl_u rfl (ow_y (yh_move rfl rfl) rfl rfl (kk_wl ?_))
                refine wl_nil ?_
                refine ex_seq ?_
                refine cw_split rfl (fun cc41 => ?_) (fun cc41 => ?_)
                · skip
                  replace h := bt cc41 h
                  refine cw_region ?_
                  refine wl_u rfl (ow_y (yh_loadBA Tb (k := 0) rfl rfl rfl rfl rfl rfl) rfl rfl (kk_wl ?_))
                  refine wl_u rfl (ow_storeA Tb (k := 14) rfl rfl rfl rfl rfl rfl rfl rfl rfl (kk_wl ?_))
                  refine wl_nil ?_
                  refine ex_seq ?_
                  refine cw_seq ?_
                  refine cw_region ?_
                  refine wl_u rfl (ow_y (yh_move rfl rfl) rfl rfl (kk_wl ?_))
                  refine wl_u rfl (ow_y (yh_move rfl rfl) rfl rfl (kk_wl ?_))
                  refine wl_s rfl rfl (fun _ => ?_) (fun hc => Bool.noConfusion (cc41.symm.trans hc))
                  refine wl_n rfl rfl rfl rfl ?_
                  refine wl_n rfl rfl rfl rfl ?_
                  refine wl_n rfl rfl rfl rfl ?_
                  refine wl_u rfl (ow_y (yh_pickT rfl rfl rfl) rfl rfl (kk_wl ?_))
                  refine wl_nil ?_
                  refine ex_seq ?_
                  refine cw_true rfl ?_
                  refine cw_region ?_
                  refine wl_u rfl (ow_y (yh_move rfl rfl) rfl rfl (kk_wl ?_))
                  refine wl_u rfl (ow_y (yh_loadBA Tb (k := 3) rfl rfl rfl rfl rfl rfl) rfl rfl (kk_wl ?_))
                  refine wl_u rfl (ow_litA Tb rfl rfl rfl rfl rfl rfl (by decide) rfl rfl (fun g2045 => kk_wl ?_))
                  obtain ⟨hll2046, h⟩ := bd_appd h
                  refine wl_u rfl (ow_chg (c' := owC changeL F2028 [.int .i64 x2028.1.kind, .string x2028.1.step.name, .slice a2028 x2028.1.step.after.length c2028, .bool x2028.1.step.undo] x2028.1) 5 rfl (fun w hA => changeL_mk x2028.1 hA) rfl (ow_appE Tb (i := 11) (j := 0) (k := 1) rfl rfl rfl rfl rfl rfl rfl rfl rfl rfl rfl (app1 hll2046) (by decide) rfl rfl (fun a2046 c2046 F2046 => kk_wl ?_)))
                  refine wl_u rfl (ow_y (yh_assign rfl rfl) rfl rfl (kk_wl ?_))
                  refine wl_nil ?_
                  refine ex_block_normal ?_
                  refine ex_seq ?_
                  refine cw_region ?_
                  refine wl_u rfl (ow_y (yh_move rfl rfl) rfl rfl (kk_wl ?_))
                  refine wl_u rfl (ow_y (yh_arI rfl rfl rfl rfl (by omega)) rfl rfl (kk_wl ?_))
                  refine wl_u rfl (ow_y (yh_assign rfl rfl) rfl rfl (kk_wl ?_))
                  refine wl_nil ?_
                  refine ex_unroll ?_
                  refine cw_seq ?_
                  refine cw_seq ?_
                  refine cw_region ?_
                  refine wl_u rfl (ow_y (yh_move rfl rfl) rfl rfl (kk_wl ?_))
                  refine wl_u rfl (ow_y (yh_move rfl rfl) rfl rfl (kk_wl ?_))
                  refine wl_u rfl (ow_y (yh_cmpI rfl rfl rfl rfl) rfl rfl (kk_wl ?_))
                  refine wl_nil ?_
                  refine ex_seq ?_
                  refine cw_split rfl (fun cc42 => ?_) (fun cc42 => ?_)
                  · skip
                    replace h := bt cc42 h
                    exact nosome h
                  · skip
                    replace h := bf cc42 h
                    have q62 := ltb_false.1 cc42
                    refine cw_exit ?_
                    refine ex_then_exit ?_
                    refine ex_then_exit ?_
                    refine ex_block_exit ?_
                    refine ex_seq ?_
                    refine cw_seq ?_
                    refine cw_region ?_
                    refine wl_u rfl (ow_y (yh_loadBA Tb (k := 15) rfl rfl rfl rfl rfl rfl) rfl rfl (kk_wl ?_))
                    refine wl_u rfl (ow_y (yh_move rfl rfl) rfl rfl (kk_wl ?_))
                    refine wl_u rfl (ow_storeA Tb (k := 17) rfl rfl rfl rfl rfl rfl rfl rfl rfl (kk_wl ?_))
                    refine wl_u rfl (ow_y (yh_assign rfl rfl) rfl rfl (kk_wl ?_))
                    refine wl_nil ?_
                    refine ex_seq ?_
                    refine cw_ret ?_
                    obtain rfl := Option.some.inj h
                    exact ex_r2 Tb rfl (.cellA 0 rfl rfl rfl rfl rfl) (.tmp rfl) (fun wq hq => ⟨_, rfl, hq.ext, ⟨a16, c16, F16, a2046, c2046, F2046, rfl, NewC.sel [17, 1] hq rfl⟩⟩)
                · skip
                  replace h := bf cc41 h
                  refine cw_skip ?_
                  refine ex_seq ?_
                  refine cw_seq ?_
                  refine cw_region ?_
                  refine wl_u rfl (ow_y (yh_move rfl rfl) rfl rfl (kk_wl ?_))
                  refine wl_u rfl (ow_y (yh_move rfl rfl) rfl rfl (kk_wl ?_))
                  refine wl_s rfl rfl (fun hc => Bool.noConfusion (cc41.symm.trans hc)) (fun _ => ?_)
                  refine wl_g rfl rfl (ow_y (yh_move rfl rfl) rfl rfl (kk_wl ?_))
                  obtain ⟨x2040, hx2040, h⟩ := bd h
                  have mp2040 := pick_lt hx2040 (by decide)
                  refine wl_g rfl rfl (ow_cM0 4 rfl hb45 rfl rfl (fun w hw => c_spec_l6Rd_pick N _ _ _ _ hx2040 w (hw.at (i := 4) rfl) (Lay.atR (i := 4) hf14 rfl hw)) rfl rfl (kk_wl ?_))
                  refine wl_g rfl rfl (ow_y (yh_cmpI rfl rfl rfl rfl) rfl rfl (kk_wl ?_))
                  refine wl_u rfl (ow_y (yh_pickF rfl rfl rfl) rfl rfl (kk_wl ?_))
                  refine wl_nil ?_
                  refine ex_seq ?_
                  refine cw_split rfl (fun cc43 => ?_) (fun cc43 => ?_)
                  · skip
                    replace h := bt cc43 h
                    have q63 := eqb_true.1 cc43
                    refine cw_region ?_
                    refine wl_u rfl (ow_y (yh_move rfl rfl) rfl rfl (kk_wl ?_))
                    refine wl_u rfl (ow_y (yh_loadBA Tb (k := 3) rfl rfl rfl rfl rfl rfl) rfl rfl (kk_wl ?_))
                    refine wl_u rfl (ow_litA Tb rfl rfl rfl rfl rfl rfl (by decide) rfl rfl (fun g2045 => kk_wl ?_))
                    obtain ⟨hll2046, h⟩ := bd_appd h
                    refine wl_u rfl (ow_chg (c' := owC changeL F2028 [.int .i64 x2028.1.kind, .string x2028.1.step.name, .slice a2028 x2028.1.step.after.length c2028, .bool x2028.1.step.undo] x2028.1) 5 rfl (fun w hA => changeL_mk x2028.1 hA) rfl (ow_appE Tb (i := 10) (j := 0) (k := 1) rfl rfl rfl rfl rfl rfl rfl rfl rfl rfl rfl (app1 hll2046) (by decide) rfl rfl (fun a2046 c2046 F2046 => kk_wl ?_)))
                    refine wl_u rfl (ow_y (yh_assign rfl rfl) rfl rfl (kk_wl ?_))
                    refine wl_nil ?_
                    refine ex_block_normal ?_
                    refine ex_seq ?_
                    refine cw_region ?_
                    refine wl_u rfl (ow_y (yh_move rfl rfl) rfl rfl (kk_wl ?_))
                    refine wl_u rfl (ow_y (yh_arI rfl rfl rfl rfl (by omega)) rfl rfl (kk_wl ?_))
                    refine wl_u rfl (ow_y (yh_assign rfl rfl) rfl rfl (kk_wl ?_))
                    refine wl_nil ?_
                    refine ex_unroll ?_
                    refine cw_seq ?_
                    refine cw_seq ?_
                    refine cw_region ?_
                    refine wl_u rfl (ow_y (yh_move rfl rfl) rfl rfl (kk_wl ?_))
                    refine wl_u rfl (ow_y (yh_move rfl rfl) rfl rfl (kk_wl ?_))
                    refine wl_u rfl (ow_y (yh_cmpI rfl rfl rfl rfl) rfl rfl (kk_wl ?_))
                    refine wl_nil ?_
                    refine ex_seq ?_
                    refine cw_split rfl (fun cc44 => ?_) (fun cc44 => ?_)
                    · skip
                      replace h := bt cc44 h
                      exact nosome h
                    · skip
                      replace h := bf cc44 h
                      have q65 := ltb_false.1 cc44
                      refine cw_exit ?_
                      refine ex_then_exit ?_
                      refine ex_then_exit ?_
                      refine ex_block_exit ?_
                      refine ex_seq ?_
                      refine cw_seq ?_
                      refine cw_region ?_
                      refine wl_u rfl (ow_y (yh_loadBA Tb (k := 15) rfl rfl rfl rfl rfl rfl) rfl rfl (kk_wl ?_))
                      refine wl_u rfl (ow_y (yh_move rfl rfl) rfl rfl (kk_wl ?_))
                      refine wl_u rfl (ow_storeA Tb (k := 17) rfl rfl rfl rfl rfl rfl rfl rfl rfl (kk_wl ?_))
                      refine wl_u rfl (ow_y (yh_assign rfl rfl) rfl rfl (kk_wl ?_))
                      refine wl_nil ?_
                      refine ex_seq ?_
                      refine cw_ret ?_
                      obtain rfl := Option.some.inj h
                      exact ex_r2 Tb rfl (.cellA 0 rfl rfl rfl rfl rfl) (.tmp rfl) (fun wq hq => ⟨_, rfl, hq.ext, ⟨a16, c16, F16, a2046, c2046, F2046, rfl, NewC.sel [17, 1] hq rfl⟩⟩)
                  · skip
                    replace h := bf cc43 h
                    have q66 := eqb_false.1 cc43
                    refine cw_skip ?_
                    refine ex_block_normal ?_
                    refine ex_seq ?_
                    refine cw_region ?_
                    refine wl_u rfl (ow_y (yh_move rfl rfl) rfl rfl (kk_wl ?_))
                    refine wl_u rfl (ow_y (yh_arI rfl rfl rfl rfl (by omega)) rfl rfl (kk_wl ?_))
                    refine wl_u rfl (ow_y (yh_assign rfl rfl) rfl rfl (kk_wl ?_))
                    refine wl_nil ?_
                    refine ex_unroll ?_
                    refine cw_seq ?_
                    refine cw_seq ?_
                    refine cw_region ?_
                    refine wl_u rfl (ow_y (yh_move rfl rfl) rfl rfl (kk_wl ?_))
                    refine wl_u rfl (ow_y (yh_move rfl rfl) rfl rfl (kk_wl ?_))
                    refine wl_u rfl (ow_y (yh_cmpI rfl rfl rfl rfl) rfl rfl (kk_wl ?_))
                    refine wl_nil ?_
                    refine ex_seq ?_
                    refine cw_split rfl (fun cc45 => ?_) (fun cc45 => ?_)
                    · skip
                      replace h := bt cc45 h
                      exact nosome h
                    · skip
                      replace h := bf cc45 h
                      have q68 := ltb_false.1 cc45
                      refine cw_exit ?_
                      refine ex_then_exit ?_
                      refine ex_then_exit ?_
                      refine ex_block_exit ?_
                      refine ex_seq ?_
                      refine cw_seq ?_
                      refine cw_region ?_
                      refine wl_u rfl (ow_y (yh_loadBA Tb (k := 15) rfl rfl rfl rfl rfl rfl) rfl rfl (kk_wl ?_))
                      refine wl_u rfl (ow_y (yh_move rfl rfl) rfl rfl (kk_wl ?_))
                      refine wl_u rfl (ow_storeA Tb (k := 17) rfl rfl rfl rfl rfl rfl rfl rfl rfl (kk_wl ?_))
                      refine wl_u rfl (ow_y (yh_assign rfl rfl) rfl rfl (kk_wl ?_))
                      refine wl_nil ?_
                      refine ex_seq ?_
                      refine cw_ret ?_
                      obtain rfl := Option.some.inj h
                      exact ex_r2 Tb rfl (.cellA 0 rfl rfl rfl rfl rfl) (.tmp rfl) (fun wq hq => ⟨_, rfl, hq.ext, ⟨a16, c16, F16, a46, c46, F46, rfl, NewC.sel [17, 10] hq rfl⟩⟩)
              · skip
                replace h := bf cc40 h
                have q69 := ltb_false.1 cc40
                refine cw_exit ?_
                refine ex_then_exit ?_
                refine ex_then_exit ?_
                refine ex_block_exit ?_
                refine ex_seq ?_
                refine cw_seq ?_
                refine cw_region ?_
                refine wl_u rfl (ow_y (yh_loadBA Tb (k := 11) rfl rfl rfl rfl rfl rfl) rfl rfl (kk_wl ?_))
                refine wl_u rfl (ow_y (yh_move rfl rfl) rfl rfl (kk_wl ?_))
                refine wl_u rfl (ow_storeA Tb (k := 13) rfl rfl rfl rfl rfl rfl rfl rfl rfl (kk_wl ?_))
                refine wl_u rfl (ow_y (yh_assign rfl rfl) rfl rfl (kk_wl ?_))
                refine wl_nil ?_
                refine ex_seq ?_
                refine cw_ret ?_
                obtain rfl := Option.some.inj h
                exact ex_r2 Tb rfl (.cellA 0 rfl rfl rfl rfl rfl) (.tmp rfl) (fun wq hq => ⟨_, rfl, hq.ext, ⟨a16, c16, F16, a46, c46, F46, rfl, NewC.sel [13, 6] hq rfl⟩⟩)
        · skip
          replace h := bf cc25 h
          have q70 := ltb_false.1 cc25
          refine cw_exit ?_
          refine ex_then_exit ?_
          refine ex_then_exit ?_
          refine ex_block_exit ?_
          refine ex_seq ?_
          refine cw_seq ?_
          refine cw_region ?_
          refine wl_u rfl (ow_y (yh_loadBA Tb (k := 7) rfl rfl rfl rfl rfl rfl) rfl rfl (kk_wl ?_))
          refine wl_u rfl (ow_y (yh_move rfl rfl) rfl rfl (kk_wl ?_))
          refine wl_u rfl (ow_storeA Tb (k := 9) rfl rfl rfl rfl rfl rfl rfl rfl rfl (kk_wl ?_))
          refine wl_u rfl (ow_y (yh_assign rfl rfl) rfl rfl (kk_wl ?_))
          refine wl_nil ?_
          refine ex_seq ?_
          refine cw_ret ?_
          obtain rfl := Option.some.inj h
          exact ex_r2 Tb rfl (.cellA 0 rfl rfl rfl rfl rfl) (.tmp rfl) (fun wq hq => ⟨_, rfl, hq.ext, ⟨a16, c16, F16, a46, c46, F46, rfl, NewC.sel [9, 1] hq rfl⟩⟩)
      · skip
        replace h := bf cc24 h
        have q71 := eqb_false.1 cc24
        refine cw_skip ?_
        refine ex_block_normal ?_
        refine ex_seq ?_
        refine cw_region ?_
        refine wl_u rfl (ow_y (yh_move rfl rfl) rfl rfl (kk_wl ?_))
        refine wl_u rfl (ow_y (yh_arI rfl rfl rfl rfl (by omega)) rfl rfl (kk_wl ?_))
        refine wl_u rfl (ow_y (yh_assign rfl rfl) rfl rfl (kk_wl ?_))
        refine wl_nil ?_
        refine ex_unroll ?_
        refine cw_seq ?_
        refine cw_seq ?_
        refine cw_region ?_
        refine wl_u rfl (ow_y (yh_move rfl rfl) rfl rfl (kk_wl ?_))
        refine wl_u rfl (ow_y (yh_move rfl rfl) rfl rfl (kk_wl ?_))
        refine wl_u rfl (ow_y (yh_cmpI rfl rfl rfl rfl) rfl rfl (kk_wl ?_))
        refine wl_nil ?_
        refine ex_seq ?_
        refine cw_split rfl (fun cc46 => ?_) (fun cc46 => ?_)
        · skip
          replace h := bt cc46 h
          have q72 := ltb_true.1 cc46
          refine cw_skip ?_
          refine ex_seq ?_
          refine cw_seq ?_
          refine cw_block ?_
          refine cw_seq ?_
          refine cw_region ?_
          refine wl_u rfl (ow_y (yh_move rfl rfl) rfl rfl (kk_wl ?_))
          refine wl_u rfl (ow_y (yh_loadBA Tb (k := 5) rfl rfl rfl rfl rfl rfl) rfl rfl (kk_wl ?_))
          obtain ⟨x1028, hx1028, h⟩ := bd h
          refine wl_u rfl (ow_cM1 0 rfl hb27 rfl rfl (fun w hw => c_spec_l92Change N _ _ _ _ hx1028 w (hw.at (i := 0) rfl) (Lay.atR (i := 0) hf14 rfl hw) (rdoR (A := stepsL) 8 0 rfl rfl rfl hw)) rfl rfl (fun a1028 c1028 F1028 => kk_wl ?_))
          refine wl_u rfl (ow_allocA Tb rfl rfl rfl rfl (fun g1010 => kk_wl ?_))
          refine wl_u rfl (ow_storeA Tb (k := 0) rfl rfl rfl rfl rfl rfl rfl rfl rfl (kk_wl ?_))
          refine wl_nil ?_
          refine ex_seq ?_
          refine cw_seq ?_
          refine cw_region ?_
          refine wl_u rfl (ow_y (yh_loadBA Tb (k := 7) rfl rfl rfl rfl rfl rfl) rfl rfl (kk_wl ?_))
          refine wl_u rfl (ow_y (yh_loadBA Tb (k := 0) rfl rfl rfl rfl rfl rfl) rfl rfl (kk_wl ?_))
          obtain ⟨x1032, hx1032, h⟩ := bd h
          refine wl_u rfl (ow_cN1 rfl hb9 rfl (fun w hw => c_spec_FlowChange N _ _ _ hx1032 w (rdo (A := stepsL) 10 rfl hw) (rdo (A := strsL) 1 rfl hw)) rfl rfl (fun a1032 c1032 F1032 => kk_wl ?_))
          refine wl_u rfl (ow_y (yh_move rfl rfl) rfl rfl (kk_wl ?_))
          refine wl_u rfl (ow_y (yh_extract rfl rfl rfl) rfl rfl (kk_wl ?_))
          refine wl_u rfl (ow_y (yh_extract rfl rfl rfl) rfl rfl (kk_wl ?_))
          refine wl_u rfl (ow_allocA Tb rfl rfl rfl rfl (fun g1011 => kk_wl ?_))
          refine wl_u rfl (ow_storeA Tb (k := 0) rfl rfl rfl rfl rfl rfl rfl rfl rfl (kk_wl ?_))
          refine wl_u rfl (ow_y (yh_assign rfl rfl) rfl rfl (kk_wl ?_))
          refine wl_nil ?_
          refine ex_seq ?_
          refine cw_seq ?_
          refine cw_seq ?_
          refine cw_region ?_
          refine wl_u rfl (ow_y (yh_move rfl rfl) rfl rfl (kk_wl ?_))
          refine wl_nil ?_
          refine ex_seq ?_
          refine cw_split rfl (fun cc47 => ?_) (fun cc47 => ?_)
          · skip
            replace h := bt cc47 h
            refine cw_region ?_
            refine wl_u rfl (ow_y (yh_loadBA Tb (k := 0) rfl rfl rfl rfl rfl rfl) rfl rfl (kk_wl ?_))
            refine wl_u rfl (ow_storeA Tb (k := 9) rfl rfl rfl rfl rfl rfl rfl rfl rfl (kk_wl ?_))
            refine wl_nil ?_
            refine ex_seq ?_
            refine cw_seq ?_
            refine cw_region ?_
            refine wl_u rfl (ow_y (yh_move rfl rfl) rfl rfl (kk_wl ?_))
            refine wl_u rfl (ow_y (yh_move rfl rfl) rfl rfl (kk_wl ?_))
            refine wl_s rfl rfl (fun _ => ?_) (fun hc => Bool.noConfusion (cc47.symm.trans hc))
            refine wl_n rfl rfl rfl rfl ?_
            refine wl_n rfl rfl rfl rfl ?_
            refine wl_n rfl rfl rfl rfl ?_
            refine wl_u rfl (ow_y (yh_pickT rfl rfl rfl) rfl rfl (kk_wl ?_))
            refine wl_nil ?_
            refine ex_seq ?_
            refine cw_true rfl ?_
            refine cw_region ?_
            refine wl_u rfl (ow_y (yh_move rfl rfl) rfl rfl (kk_wl ?_))
            refine wl_u rfl (ow_y (yh_loadBA Tb (k := 3) rfl rfl rfl rfl rfl rfl) rfl rfl (kk_wl ?_))
            refine wl_u rfl (ow_litA Tb rfl rfl rfl rfl rfl rfl (by decide) rfl rfl (fun g1045 => kk_wl ?_))
            obtain ⟨hll1046, h⟩ := bd_appd h
            refine wl_u rfl (ow_chg (c' := owC changeL F1028 [.int .i64 x1028.1.kind, .string x1028.1.step.name, .slice a1028 x1028.1.step.after.length c1028, .bool x1028.1.step.undo] x1028.1) 5 rfl (fun w hA => changeL_mk x1028.1 hA) rfl (ow_appE Tb (i := 11) (j := 0) (k := 1) rfl rfl rfl rfl rfl rfl rfl rfl rfl rfl rfl (app1 hll1046) (by decide) rfl rfl (fun a1046 c1046 F1046 => kk_wl ?_)))
            refine wl_u rfl (ow_y (yh_assign rfl rfl) rfl rfl (kk_wl ?_))
            refine wl_nil ?_
            refine ex_block_normal ?_
            refine ex_seq ?_
            refine cw_region ?_
            refine wl_u rfl (ow_y (yh_move rfl rfl) rfl rfl (kk_wl ?_))
            refine wl_u rfl (ow_y (yh_arI rfl rfl rfl rfl (by omega)) rfl rfl (kk_wl ?_))
            refine wl_u rfl (ow_y (yh_assign rfl rfl) rfl rfl (kk_wl ?_))
            refine wl_nil ?_
            refine ex_unroll ?_
            refine cw_seq ?_
            refine cw_seq ?_
            refine cw_region ?_
            refine wl_u rfl (ow_y (yh_move rfl rfl) rfl rfl (kk_wl ?_))
            refine wl_u rfl (ow_y (yh_move rfl rfl) rfl rfl (kk_wl ?_))
            refine wl_u rfl (ow_y (yh_cmpI rfl rfl rfl rfl) rfl rfl (kk_wl ?_))
            refine wl_nil ?_
            refine ex_seq ?_
            refine cw_split rfl (fun cc48 => ?_) (fun cc48 => ?_)
            · skip
              replace h := bt cc48 h
              have q73 := ltb_true.1 cc48
              refine cw_skip ?_
              refine ex_seq ?_
              refine cw_seq ?_
              refine cw_block ?_
              refine cw_seq ?_
              refine cw_region ?_
              refine wl_u rfl (ow_y (yh_move rfl rfl) rfl rfl (kk_wl ?_))
              refine wl_u rfl (ow_y (yh_loadBA Tb (k := 2) rfl rfl rfl rfl rfl rfl) rfl rfl (kk_wl ?_))
              obtain ⟨x2028, hx2028, h⟩ := bd h
              refine wl_u rfl (ow_cM1 6 rfl hb27 rfl rfl (fun w hw => c_spec_l92Change N _ _ _ _ hx2028 w (hw.at (i := 6) rfl) (Lay.atR (i := 6) hf14 rfl hw) (rdoR (A := stepsL) 4 6 rfl rfl rfl hw)) rfl rfl (fun a2028 c2028 F2028 => kk_wl ?_))
              refine wl_u rfl (ow_allocA Tb rfl rfl rfl rfl (fun g2010 => kk_wl ?_))
              refine wl_u rfl (ow_storeA Tb (k := 0) rfl rfl rfl rfl rfl rfl rfl rfl rfl (kk_wl ?_))
              refine wl_nil ?_
              refine ex_seq ?_
              refine cw_seq ?_
              refine cw_region ?_
              refine wl_u rfl (ow_y (yh_loadBA Tb (k := 5) rfl rfl rfl rfl rfl rfl) rfl rfl (kk_wl ?_))
              refine wl_u rfl (ow_y (yh_loadBA Tb (k := 0) rfl rfl rfl rfl rfl rfl) rfl rfl (kk_wl ?_))
              obtain ⟨x2032, hx2032, h⟩ := bd h
              refine wl_u rfl (ow_cN1 rfl hb9 rfl (fun w hw => c_spec_FlowChange N _ _ _ hx2032 w (rdo (A := stepsL) 7 rfl hw) (rdo (A := strsL) 1 rfl hw)) rfl rfl (fun a2032 c2032 F2032 => kk_wl ?_))
              refine wl_u rfl (ow_y (yh_move rfl rfl) rfl rfl (kk_wl ?_))
              refine wl_u rfl (ow_y (yh_extract rfl rfl rfl) rfl rfl (kk_wl ?_))
              refine wl_u rfl (ow_y (yh_extract rfl rfl rfl) rfl rfl (kk_wl ?_))
              refine wl_u rfl (ow_allocA Tb rfl rfl rfl rfl (fun g2011 => kk_wl ?_))
              refine wl_u rfl (ow_storeA Tb (k := 0) rfl rfl rfl rfl rfl rfl rfl rfl rfl (kk_wl ?_))
              refine wl_u rfl (ow_y (yh_assign rfl rfl) rfl rfl (kk_wl ?_))
              refine wl_nil ?_
              refine ex_seq ?_
              refine cw_seq ?_
              refine cw_seq ?_
              refine cw_region ?_
              refine wl_u rfl (ow_y (yh_move rfl rfl) rfl rfl (kk_wl ?_))
              refine wl_nil ?_
              refine ex_seq ?_
              refine cw_split rfl (fun cc49 => ?_) (fun cc49 => ?_)
              · skip
                replace h := bt cc49 h
                refine cw_region ?_
                refine wl_u rfl (ow_y (yh_loadBA Tb (k := 0) rfl rfl rfl rfl rfl rfl) rfl rfl (kk_wl ?_))
                refine wl_u rfl (ow_storeA Tb (k := 7) rfl rfl rfl rfl rfl rfl rfl rfl rfl (kk_wl ?_))
                refine wl_nil ?_
                refine ex_seq ?_
                refine cw_seq ?_
                refine cw_region ?_
                refine wl_u rfl (ow_y (yh_move rfl rfl) rfl rfl (kk_wl ?_))
                refine wl_u rfl (ow_y (yh_move rfl rfl) rfl rfl (kk_wl ?_))
                refine wl_s rfl rfl (fun _ => ?_) (fun hc => Bool.noConfusion (cc49.symm.trans hc))
                refine wl_n rfl rfl rfl rfl ?_
                refine wl_n rfl rfl rfl rfl ?_
                refine wl_n rfl rfl rfl rfl ?_
                refine wl_u rfl (ow_y (yh_pickT rfl rfl rfl) rfl rfl (kk_wl ?_))
                refine wl_nil ?_
                refine ex_seq ?_
                refine cw_true rfl ?_
                refine cw_region ?_
                refine wl_u rfl (ow_y (yh_move rfl rfl) rfl rfl (kk_wl ?_))
                refine wl_u rfl (ow_y (yh_loadBA Tb (k := 3) rfl rfl rfl rfl rfl rfl) rfl rfl (kk_wl ?_))
                refine wl_u rfl (ow_litA Tb rfl rfl rfl rfl rfl rfl (by decide) rfl rfl (fun g2045 => kk_wl ?_))
                obtain ⟨hll2046, h⟩ := bd_appd h
                refine wl_u rfl (ow_chg (c' := owC changeL F2028 [.int .i64 x2028.1.kind, .string x2028.1.step.name, .slice a2028 x2028.1.step.after.length c2028, .bool x2028.1.step.undo] x2028.1) 5 rfl (fun w hA => changeL_mk x2028.1 hA) rfl (ow_appE Tb (i := 7) (j := 0) (k := 1) rfl rfl rfl rfl rfl rfl rfl rfl rfl rfl rfl (app1 hll2046) (by decide) rfl rfl (fun a2046 c2046 F2046 => kk_wl ?_)))
                refine wl_u rfl (ow_y (yh_assign rfl rfl) rfl rfl (kk_wl ?_))
                refine wl_nil ?_
                refine ex_block_normal ?_
                refine ex_seq ?_
                refine cw_region ?_
                refine wl_u rfl (ow_y (yh_move rfl rfl) rfl rfl (kk_wl ?_))
                refine wl_u rfl (ow_y (yh_arI rfl rfl rfl rfl (by omega)) rfl rfl (kk_wl ?_))
                refine wl_u rfl (ow_y (yh_assign rfl rfl) rfl rfl (kk_wl ?_))
                refine wl_nil ?_
                refine ex_unroll ?_
                refine cw_seq ?_
                refine cw_seq ?_
                refine cw_region ?_
                refine wl_u rfl (ow_y (yh_move rfl rfl) rfl rfl (kk_wl ?_))
                refine wl_u rfl (ow_y (yh_move rfl rfl) rfl rfl (kk_wl ?_))
                refine wl_u rfl (ow_y (yh_cmpI rfl rfl rfl rfl) rfl rfl (kk_wl ?_))
                refine wl_nil ?_
                refine ex_seq ?_
                refine cw_split rfl (fun cc50 => ?_) (fun cc50 => ?_)
                · skip
                  replace h := bt cc50 h
                  exact nosome h
                · skip
                  replace h := bf cc50 h
                  have q75 := ltb_false.1 cc50
                  refine cw_exit ?_
                  refine ex_then_exit ?_
                  refine ex_then_exit ?_
                  refine ex_block_exit ?_
                  refine ex_seq ?_
                  refine cw_seq ?_
                  refine cw_region ?_
                  refine wl_u rfl (ow_y (yh_loadBA Tb (k := 15) rfl rfl rfl rfl rfl rfl) rfl rfl (kk_wl ?_))
                  refine wl_u rfl (ow_y (yh_move rfl rfl) rfl rfl (kk_wl ?_))
                  refine wl_u rfl (ow_storeA Tb (k := 17) rfl rfl rfl rfl rfl rfl rfl rfl rfl (kk_wl ?_))
                  refine wl_u rfl (ow_y (yh_assign rfl rfl) rfl rfl (kk_wl ?_))
                  refine wl_nil ?_
                  refine ex_seq ?_
                  refine cw_ret ?_
                  obtain rfl := Option.some.inj h
                  exact ex_r2 Tb rfl (.cellA 0 rfl rfl rfl rfl rfl) (.tmp rfl) (fun wq hq => ⟨_, rfl, hq.ext, ⟨a16, c16, F16, a2046, c2046, F2046, rfl, NewC.sel [17, 1] hq rfl⟩⟩)
              · skip
                replace h := bf cc49 h
                refine cw_skip ?_
                refine ex_seq ?_
                refine cw_seq ?_
                refine cw_region ?_
                refine wl_u rfl (ow_y (yh_move rfl rfl) rfl rfl (kk_wl ?_))
                refine wl_u rfl (ow_y (yh_move rfl rfl) rfl rfl (kk_wl ?_))
                refine wl_s rfl rfl (fun hc => Bool.noConfusion (cc49.symm.trans hc)) (fun _ => ?_)
                refine wl_g rfl rfl (ow_y (yh_move rfl rfl) rfl rfl (kk_wl ?_))
                obtain ⟨x2040, hx2040, h⟩ := bd h
                have mp2040 := pick_lt hx2040 (by decide)
                refine wl_g rfl rfl (ow_cM0 4 rfl hb45 rfl rfl (fun w hw => c_spec_l6Rd_pick N _ _ _ _ hx2040 w (hw.at (i := 4) rfl) (Lay.atR (i := 4) hf14 rfl hw)) rfl rfl (kk_wl ?_))
                refine wl_g rfl rfl (ow_y (yh_cmpI rfl rfl rfl rfl) rfl rfl (kk_wl ?_))
                refine wl_u rfl (ow_y (yh_pickF rfl rfl rfl) rfl rfl (kk_wl ?_))
                refine wl_nil ?_
                refine ex_seq ?_
                refine cw_split rfl (fun cc51 => ?_) (fun cc51 => ?_)
                · skip
                  replace h := bt cc51 h
                  have q76 := eqb_true.1 cc51
                  refine cw_region ?_
                  refine wl_u rfl (ow_y (yh_move rfl rfl) rfl rfl (kk_wl ?_))
                  refine wl_u rfl (ow_y (yh_loadBA Tb (k := 3) rfl rfl rfl rfl rfl rfl) rfl rfl (kk_wl ?_))
                  refine wl_u rfl (ow_litA Tb rfl rfl rfl rfl rfl rfl (by decide) rfl rfl (fun g2045 => kk_wl ?_))
                  obtain ⟨hll2046, h⟩ := bd_appd h
                  refine wl_u rfl (ow_chg (c' := owC changeL F2028 [.int .i64 x2028.1.kind, .string x2028.1.step.name, .slice a2028 x2028.1.step.after.length c2028, .bool x2028.1.step.undo] x2028.1) 5 rfl (fun w hA => changeL_mk x2028.1 hA) rfl (ow_appE Tb (i := 6) (j := 0) (k := 1) rfl rfl rfl rfl rfl rfl rfl rfl rfl rfl rfl (app1 hll2046) (by decide) rfl rfl (fun a2046 c2046 F2046 => kk_wl ?_)))
                  refine wl_u rfl (ow_y (yh_assign rfl rfl) rfl rfl (kk_wl ?_))
                  refine wl_nil ?_
                  refine ex_block_normal ?_
                  refine ex_seq ?_
                  refine cw_region ?_
                  refine wl_u rfl (ow_y (yh_move rfl rfl) rfl rfl (kk_wl ?_))
                  refine wl_u rfl (ow_y (yh_arI rfl rfl rfl rfl (by omega)) rfl rfl (kk_wl ?_))
                  refine wl_u rfl (ow_y (yh_assign rfl rfl) rfl rfl (kk_wl ?_))
                  refine wl_nil ?_
                  refine ex_unroll ?_
                  refine cw_seq ?_
                  refine cw_seq ?_
                  refine cw_region ?_
                  refine wl_u rfl (ow_y (yh_move rfl rfl) rfl rfl (kk_wl ?_))
                  refine wl_u rfl (ow_y (yh_move rfl rfl) rfl rfl (kk_wl ?_))
                  refine wl_u rfl (ow_y (yh_cmpI rfl rfl rfl rfl) rfl rfl (kk_wl ?_))
                  refine wl_nil ?_
                  refine ex_seq ?_
                  refine cw_split rfl (fun cc52 => ?_) (fun cc52 => ?_)
                  · skip
                    replace h := bt cc52 h
                    exact nosome h
                  · skip
                    replace h := bf cc52 h
                    have q78 := ltb_false.1 cc52
                    refine cw_exit ?_
                    refine ex_then_exit ?_
                    refine ex_then_exit ?_
                    refine ex_block_exit ?_
                    refine ex_seq ?_
                    refine cw_seq ?_
                    refine cw_region ?_
                    refine wl_u rfl (ow_y (yh_loadBA Tb (k := 15) rfl rfl rfl rfl rfl rfl) rfl rfl (kk_wl ?_))
                    refine wl_u rfl (ow_y (yh_move rfl rfl) rfl rfl (kk_wl ?_))
                    refine wl_u rfl (ow_storeA Tb (k := 17) rfl rfl rfl rfl rfl rfl rfl rfl rfl (kk_wl ?_))
                    refine wl_u rfl (ow_y (yh_assign rfl rfl) rfl rfl (kk_wl ?_))
                    refine wl_nil ?_
                    refine ex_seq ?_
                    refine cw_ret ?_
                    obtain rfl := Option.some.inj h
                    exact ex_r2 Tb rfl (.cellA 0 rfl rfl rfl rfl rfl) (.tmp rfl) (fun wq hq => ⟨_, rfl, hq.ext, ⟨a16, c16, F16, a2046, c2046, F2046, rfl, NewC.sel [17, 1] hq rfl⟩⟩)
                · skip
                  replace h := bf cc51 h
                  have q79 := eqb_false.1 cc51
                  refine cw_skip ?_
                  refine ex_block_normal ?_
                  refine ex_seq ?_
                  refine cw_region ?_
                  refine wl_u rfl (ow_y (yh_move rfl rfl) rfl rfl (kk_wl ?_))
                  refine wl_u rfl (ow_y (yh_arI rfl rfl rfl rfl (by omega)) rfl rfl (kk_wl ?_))
                  refine wl_u rfl (ow_y (yh_assign rfl rfl) rfl rfl (kk_wl ?_))
                  refine wl_nil ?_
                  refine ex_unroll ?_
                  refine cw_seq ?_
                  refine cw_seq ?_
                  refine cw_region ?_
                  refine wl_u rfl (ow_y (yh_move rfl rfl) rfl rfl (kk_wl ?_))
                  refine wl_u rfl (ow_y (yh_move rfl rfl) rfl rfl (kk_wl ?_))
                  refine wl_u rfl (ow_y (yh_cmpI rfl rfl rfl rfl) rfl rfl (kk_wl ?_))
                  refine wl_nil ?_
                  refine ex_seq ?_
                  refine cw_split rfl (fun cc53 => ?_) (fun cc53 => ?_)
                  · skip
                    replace h := bt cc53 h
                    exact nosome h
                  · skip
                    replace h := bf cc53 h
                    have q81 := ltb_false.1 cc53
                    refine cw_exit ?_
                    refine ex_then_exit ?_
                    refine ex_then_exit ?_
                    refine ex_block_exit ?_
                    refine ex_seq ?_
                    refine cw_seq ?_
                    refine cw_region ?_
                    refine wl_u rfl (ow_y (yh_loadBA Tb (k := 15) rfl rfl rfl rfl rfl rfl) rfl rfl (kk_wl ?_))
                    refine wl_u rfl (ow_y (yh_move rfl rfl) rfl rfl (kk_wl ?_))
                    refine wl_u rfl (ow_storeA Tb (k := 17) rfl rfl rfl rfl rfl rfl rfl rfl rfl (kk_wl ?_))
                    refine wl_u rfl (ow_y (yh_assign rfl rfl) rfl rfl (kk_wl ?_))
                    refine wl_nil ?_
                    refine ex_seq ?_
                    refine cw_ret ?_
                    obtain rfl := Option.some.inj h
                    exact ex_r2 Tb rfl (.cellA 0 rfl rfl rfl rfl rfl) (.tmp rfl) (fun wq hq => ⟨_, rfl, hq.ext, ⟨a16, c16, F16, a1046, c1046, F1046, rfl, NewC.sel [17, 6] hq rfl⟩⟩)
            · skip
              replace h := bf cc48 h
              have q82 := ltb_false.1 cc48
              refine cw_exit ?_
              refine ex_then_exit ?_
              refine ex_then_exit ?_
              refine ex_block_exit ?_
              refine ex_seq ?_
              refine cw_seq ?_
              refine cw_region ?_
              refine wl_u rfl (ow_y (yh_loadBA Tb (k := 11) rfl rfl rfl rfl rfl rfl) rfl rfl (kk_wl ?_))
              refine wl_u rfl (ow_y (yh_move rfl rfl) rfl rfl (kk_wl ?_))
              refine wl_u rfl (ow_storeA Tb (k := 13) rfl rfl rfl rfl rfl rfl rfl rfl rfl (kk_wl ?_))
              refine wl_u rfl (ow_y (yh_assign rfl rfl) rfl rfl (kk_wl ?_))
              refine wl_nil ?_
              refine ex_seq ?_
              refine cw_ret ?_
              obtain rfl := Option.some.inj h
              exact ex_r2 Tb rfl (.cellA 0 rfl rfl rfl rfl rfl) (.tmp rfl) (fun wq hq => ⟨_, rfl, hq.ext, ⟨a16, c16, F16, a1046, c1046, F1046, rfl, NewC.sel [13, 1] hq rfl⟩⟩)
          · skip
            replace h := bf cc47 h
            refine cw_skip ?_
            refine ex_seq ?_
            refine cw_seq ?_
            refine cw_region ?_
            refine wl_u rfl (ow_y (yh_move rfl rfl) rfl rfl (kk_wl ?_))
            refine wl_u rfl (ow_y (yh_move rfl rfl) rfl rfl (kk_wl ?_))
            refine wl_s rfl rfl (fun hc => Bool.noConfusion (cc47.symm.trans hc)) (fun _ => ?_)
            refine wl_g rfl rfl (ow_y (yh_move rfl rfl) rfl rfl (kk_wl ?_))
            obtain ⟨x1040, hx1040, h⟩ := bd h
            have mp1040 := pick_lt hx1040 (by decide)
            refine wl_g rfl rfl (ow_cM0 4 rfl hb45 rfl rfl (fun w hw => c_spec_l6Rd_pick N _ _ _ _ hx1040 w (hw.at (i := 4) rfl) (Lay.atR (i := 4) hf14 rfl hw)) rfl rfl (kk_wl ?_))
            refine wl_g rfl rfl (ow_y (yh_cmpI rfl rfl rfl rfl) rfl rfl (kk_wl ?_))
            refine wl_u rfl (ow_y (yh_pickF rfl rfl rfl) rfl rfl (kk_wl ?_))
            refine wl_nil ?_
            refine ex_seq ?_
            refine cw_split rfl (fun cc54 => ?_) (fun cc54 => ?_)
            · skip
              replace h := bt cc54 h
              have q83 := eqb_true.1 cc54
              refine cw_region ?_
              refine wl_u rfl (ow_y (yh_move rfl rfl) rfl rfl (kk_wl ?_))
              refine wl_u rfl (ow_y (yh_loadBA Tb (k := 3) rfl rfl rfl rfl rfl rfl) rfl rfl (kk_wl ?_))
              refine wl_u rfl (ow_litA Tb rfl rfl rfl rfl rfl rfl (by decide) rfl rfl (fun g1045 => kk_wl ?_))
              obtain ⟨hll1046, h⟩ := bd_appd h
              refine wl_u rfl (ow_chg (c' := owC changeL F1028 [.int .i64 x1028.1.kind, .string x1028.1.step.name, .slice a1028 x1028.1.step.after.length c1028, .bool x1028.1.step.undo] x1028.1) 5 rfl (fun w hA => changeL_mk x1028.1 hA) rfl (ow_appE Tb (i := 11) (j := 0) (k := 1) rfl rfl rfl rfl rfl rfl rfl rfl rfl rfl rfl (app1 hll1046) (by decide) rfl rfl (fun a1046 c1046 F1046 => kk_wl ?_)))
              refine wl_u rfl (ow_y (yh_assign rfl rfl) rfl rfl (kk_wl ?_))
              refine wl_nil ?_
              refine ex_block_normal ?_
              refine ex_seq ?_
              refine cw_region ?_
              refine wl_u rfl (ow_y (yh_move rfl rfl) rfl rfl (kk_wl ?_))
              refine wl_u rfl (ow_y (yh_arI rfl rfl rfl rfl (by omega)) rfl rfl (kk_wl ?_))
              refine wl_u rfl (ow_y (yh_assign rfl rfl) rfl rfl (kk_wl ?_))
              refine wl_nil ?_
              refine ex_unroll ?_
              refine cw_seq ?_
              refine cw_seq ?_
              refine cw_region ?_
              refine wl_u rfl (ow_y (yh_move rfl rfl) rfl rfl (kk_wl ?_))
              refine wl_u rfl (ow_y (yh_move rfl rfl) rfl rfl (kk_wl ?_))
              refine wl_u rfl (ow_y (yh_cmpI rfl rfl rfl rfl) rfl rfl (kk_wl ?_))
              refine wl_nil ?_
              refine ex_seq ?_
              refine cw_split rfl (fun cc55 => ?_) (fun cc55 => ?_)
              · skip
                replace h := bt cc55 h
                have q84 := ltb_true.1 cc55
                refine cw_skip ?_
                refine ex_seq ?_
                refine cw_seq ?_
                refine cw_block ?_
                refine cw_seq ?_
                refine cw_region ?_
                refine wl_u rfl (ow_y (yh_move rfl rfl) rfl rfl (kk_wl ?_))
                refine wl_u rfl (ow_y (yh_loadBA Tb (k := 10) rfl rfl rfl rfl rfl rfl) rfl rfl (kk_wl ?_))
                obtain ⟨x2028, hx2028, h⟩ := bd h
                refine wl_u rfl (ow_cM1 2 rfl hb27 rfl rfl (fun w hw => c_spec_l92Change N _ _ _ _ hx2028 w (hw.at (i := 2) rfl) (Lay.atR (i := 2) hf14 rfl hw) (rdoR (A := stepsL) 12 2 rfl rfl rfl hw)) rfl rfl (fun a2028 c2028 F2028 => kk_wl ?_))
                refine wl_u rfl (ow_allocA Tb rfl rfl rfl rfl (fun g2010 => kk_wl ?_))
                refine wl_u rfl (ow_storeA Tb (k := 0) rfl rfl rfl rfl rfl rfl rfl rfl rfl (kk_wl ?_))
                refine wl_nil ?_
                refine ex_seq ?_
                refine cw_seq ?_
                refine cw_region ?_
                refine wl_u rfl (ow_y (yh_loadBA Tb (k := 12) rfl rfl rfl rfl rfl rfl) rfl rfl (kk_wl ?_))
                refine wl_u rfl (ow_y (yh_loadBA Tb (k := 0) rfl rfl rfl rfl rfl rfl) rfl rfl (kk_wl ?_))
                obtain ⟨x2032, hx2032, h⟩ := bd h
                refine wl_u rfl (ow_cN1 rfl hb9 rfl (fun w hw => c_spec_FlowChange N _ _ _ hx2032 w (rdo (A := stepsL) 14 rfl hw) (rdo (A := strsL) 1 rfl hw)) rfl rfl (fun a2032 c2032 F2032 => kk_wl ?_))
                refine wl_u rfl (ow_y (yh_move rfl rfl) rfl rfl (kk_wl ?_))
                refine wl_u rfl (ow_y (yh_extract rfl rfl rfl) rfl rfl (kk_wl ?_))
                refine wl_u rfl (ow_y (yh_extract rfl rfl rfl) rfl rfl (kk_wl ?_))
                refine wl_u rfl (ow_allocA Tb rfl rfl rfl rfl (fun g2011 => kk_wl ?_))
                refine wl_u rfl (ow_storeA Tb (k := 0) rfl rfl rfl rfl rfl rfl rfl rfl rfl (kk_wl ?_))
                refine wl_u rfl (ow_y (yh_assign rfl rfl) rfl rfl (kk_wl ?_))
                refine wl_nil ?_
                refine ex_seq ?_
                refine cw_seq ?_
                refine cw_seq ?_
                refine cw_region ?_
                refine wl_u rfl (ow_y (yh_move rfl rfl) rfl rfl (kk_wl ?_))
                refine wl_nil ?_
                refine ex_seq ?_
                refine cw_split rfl (fun cc56 => ?_) (fun cc56 => ?_)
                · skip
                  replace h := bt cc56 h
                  refine cw_region ?_
                  refine wl_u rfl (ow_y (yh_loadBA Tb (k := 0) rfl rfl rfl rfl rfl rfl) rfl rfl (kk_wl ?_))
                  refine wl_u rfl (ow_storeA Tb (k := 14) rfl rfl rfl rfl rfl rfl rfl rfl rfl (kk_wl ?_))
                  refine wl_nil ?_
                  refine ex_seq ?_
                  refine cw_seq ?_
                  refine cw_region ?_
                  refine wl_u rfl (ow_y (yh_move rfl rfl) rfl rfl (kk_wl ?_))
                  refine wl_u rfl (ow_y (yh_move rfl rfl) rfl rfl (kk_wl ?_))
                  refine wl_s rfl rfl (fun _ => ?_) (fun hc => Bool.noConfusion (cc56.symm.trans hc))
                  refine wl_n rfl rfl rfl rfl ?_
                  refine wl_n rfl rfl rfl rfl ?_
                  refine wl_n rfl rfl rfl rfl ?_
                  refine wl_u rfl (ow_y (yh_pickT rfl rfl rfl) rfl rfl (kk_wl ?_))
                  refine wl_nil ?_
                  refine ex_seq ?_
                  refine cw_true rfl ?_
                  refine cw_region ?_
                  refine wl_u rfl (ow_y (yh_move rfl rfl) rfl rfl (kk_wl ?_))
                  refine wl_u rfl (ow_y (yh_loadBA Tb (k := 3) rfl rfl rfl rfl rfl rfl) rfl rfl (kk_wl ?_))
                  refine wl_u rfl (ow_litA Tb rfl rfl rfl rfl rfl rfl (by decide) rfl rfl (fun g2045 => kk_wl ?_))
                  obtain ⟨hll2046, h⟩ := bd_appd h
                  refine wl_u rfl (ow_chg (c' := owC changeL F2028 [.int .i64 x2028.1.kind, .string x2028.1.step.name, .slice a2028 x2028.1.step.after.length c2028, .bool x2028.1.step.undo] x2028.1) 5 rfl (fun w hA => changeL_mk x2028.1 hA) rfl (ow_appE Tb (i := 7) (j := 0) (k := 1) rfl rfl rfl rfl rfl rfl rfl rfl rfl rfl rfl (app1 hll2046) (by decide) rfl rfl (fun a2046 c2046 F2046 => kk_wl ?_)))
                  refine wl_u rfl (ow_y (yh_assign rfl rfl) rfl rfl (kk_wl ?_))
                  refine wl_nil ?_
                  refine ex_block_normal ?_
                  refine ex_seq ?_
                  refine cw_region ?_
                  refine wl_u rfl (ow_y (yh_move rfl rfl) rfl rfl (kk_wl ?_))
                  refine wl_u rfl (ow_y (yh_arI rfl rfl rfl rfl (by omega)) rfl rfl (kk_wl ?_))
                  refine wl_u rfl (ow_y (yh_assign rfl rfl) rfl rfl (kk_wl ?_))
                  refine wl_nil ?_
                  refine ex_unroll ?_
                  refine cw_seq ?_
                  refine cw_seq ?_
                  refine cw_region ?_
                  refine wl_u rfl (ow_y (yh_move rfl rfl) rfl rfl (kk_wl ?_))
                  refine wl_u rfl (ow_y (yh_move rfl rfl) rfl rfl (kk_wl ?_))
                  refine wl_u rfl (ow_y (yh_cmpI rfl rfl rfl rfl) rfl rfl (kk_wl ?_))
                  refine wl_nil ?_
                  refine ex_seq ?_
                  refine cw_split rfl (fun cc57 => ?_) (fun cc57 => ?_)
                  · skip
                    replace h := bt cc57 h
                    exact nosome h
                  · skip
                    replace h := bf cc57 h
                    have q86 := ltb_false.1 cc57
                    refine cw_exit ?_
                    refine ex_then_exit ?_
                    refine ex_then_exit ?_
                    refine ex_block_exit ?_
                    refine ex_seq ?_
                    refine cw_seq ?_
                    refine cw_region ?_
                    refine wl_u rfl (ow_y (yh_loadBA Tb (k := 15) rfl rfl rfl rfl rfl rfl) rfl rfl (kk_wl ?_))
                    refine wl_u rfl (ow_y (yh_move rfl rfl) rfl rfl (kk_wl ?_))
                    refine wl_u rfl (ow_storeA Tb (k := 17) rfl rfl rfl rfl rfl rfl rfl rfl rfl (kk_wl ?_))
                    refine wl_u rfl (ow_y (yh_assign rfl rfl) rfl rfl (kk_wl ?_))
                    refine wl_nil ?_
                    refine ex_seq ?_
                    refine cw_ret ?_
                    obtain rfl := Option.some.inj h
                    exact ex_r2 Tb rfl (.cellA 0 rfl rfl rfl rfl rfl) (.tmp rfl) (fun wq hq => ⟨_, rfl, hq.ext, ⟨a16, c16, F16, a2046, c2046, F2046, rfl, NewC.sel [17, 1] hq rfl⟩⟩)
                · skip
                  replace h := bf cc56 h
                  refine cw_skip ?_
                  refine ex_seq ?_
                  refine cw_seq ?_
                  refine cw_region ?_
                  refine wl_u rfl (ow_y (yh_move rfl rfl) rfl rfl (kk_wl ?_))
                  refine wl_u rfl (ow_y (yh_move rfl rfl) rfl rfl (kk_wl ?_))
                  refine wl_s rfl rfl (fun hc => Bool.noConfusion (cc56.symm.trans hc)) (fun _ => ?_)
                  refine wl_g rfl rfl (ow_y (yh_move rfl rfl) rfl rfl (kk_wl ?_))
                  obtain ⟨x2040, hx2040, h⟩ := bd h
                  have mp2040 := pick_lt hx2040 (by decide)
                  refine wl_g rfl rfl (ow_cM0 4 rfl hb45 rfl rfl (fun w hw => c_spec_l6Rd_pick N _ _ _ _ hx2040 w (hw.at (i := 4) rfl) (Lay.atR (i := 4) hf14 rfl hw)) rfl rfl (kk_wl ?_))
                  refine wl_g rfl rfl (ow_y (yh_cmpI rfl rfl rfl rfl) rfl rfl (kk_wl ?_))
                  refine wl_u rfl (ow_y (yh_pickF rfl rfl rfl) rfl rfl (kk_wl ?_))
                  refine wl_nil ?_
                  refine ex_seq ?_
                  refine cw_split rfl (fun cc58 => ?_) (fun cc58 => ?_)
                  · skip
                    replace h := bt cc58 h
                    have q87 := eqb_true.1 cc58
                    refine cw_region ?_
                    refine wl_u rfl (ow_y (yh_move rfl rfl) rfl rfl (kk_wl ?_))
                    refine wl_u rfl (ow_y (yh_loadBA Tb (k := 3) rfl rfl rfl rfl rfl rfl) rfl rfl (kk_wl ?_))
                    refine wl_u rfl (ow_litA Tb rfl rfl rfl rfl rfl rfl (by decide) rfl rfl (fun g2045 => kk_wl ?_))
                    obtain ⟨hll2046, h⟩ := bd_appd h
                    refine wl_u rfl (ow_chg (c' := owC changeL F2028 [.int .i64 x2028.1.kind, .string x2028.1.step.name, .slice a2028 x2028.1.step.after.length c2028, .bool x2028.1.step.undo] x2028.1) 5 rfl (fun w hA => changeL_mk x2028.1 hA) rfl (ow_appE Tb (i := 6) (j := 0) (k := 1) rfl rfl rfl rfl rfl rfl rfl rfl rfl rfl rfl (app1 hll2046) (by decide) rfl rfl (fun a2046 c2046 F2046 => kk_wl ?_)))
                    refine wl_u rfl (ow_y (yh_assign rfl rfl) rfl rfl (kk_wl ?_))
                    refine wl_nil ?_
                    refine ex_block_normal ?_
                    refine ex_seq ?_
                    refine cw_region ?_
                    refine wl_u rfl (ow_y (yh_move rfl rfl) rfl rfl (kk_wl ?_))
                    refine wl_u rfl (ow_y (yh_arI rfl rfl rfl rfl (by omega)) rfl rfl (kk_wl ?_))
                    refine wl_u rfl (ow_y (yh_assign rfl rfl) rfl rfl (kk_wl ?_))
                    refine wl_nil ?_
                    refine ex_unroll ?_
                    refine cw_seq ?_
                    refine cw_seq ?_
                    refine cw_region ?_
                    refine wl_u rfl (ow_y (yh_move rfl rfl) rfl rfl (kk_wl ?_))
                    refine wl_u rfl (ow_y (yh_move rfl rfl) rfl rfl (kk_wl ?_))
                    refine wl_u rfl (ow_y (yh_cmpI rfl rfl rfl rfl) rfl rfl (kk_wl ?_))
                    refine wl_nil ?_
                    refine ex_seq ?_
                    refine cw_split rfl (fun cc59 => ?_) (fun cc59 => ?_)
                    · skip
                      replace h := bt cc59 h
                      exact nosome h
                    · skip
                      replace h := bf cc59 h
                      have q89 := ltb_false.1 cc59
                      refine cw_exit ?_
                      refine ex_then_exit ?_
                      refine ex_then_exit ?_
                      refine ex_block_exit ?_
                      refine ex_seq ?_
                      refine cw_seq ?_
                      refine cw_region ?_
                      refine wl_u rfl (ow_y (yh_loadBA Tb (k := 15) rfl rfl rfl rfl rfl rfl) rfl rfl (kk_wl ?_))
                      refine wl_u rfl (ow_y (yh_move rfl rfl) rfl rfl (kk_wl ?_))
                      refine wl_u rfl (ow_storeA Tb (k := 17) rfl rfl rfl rfl rfl rfl rfl rfl rfl (kk_wl ?_))
                      refine wl_u rfl (ow_y (yh_assign rfl rfl) rfl rfl (kk_wl ?_))
                      refine wl_nil ?_
                      refine ex_seq ?_
                      refine cw_ret ?_
                      obtain rfl := Option.some.inj h
                      exact ex_r2 Tb rfl (.cellA 0 rfl rfl rfl rfl rfl) (.tmp rfl) (fun wq hq => ⟨_, rfl, hq.ext, ⟨a16, c16, F16, a2046, c2046, F2046, rfl, NewC.sel [17, 1] hq rfl⟩⟩)
                  · skip
                    replace h := bf cc58 h
                    have q90 := eqb_false.1 cc58
                    refine cw_skip ?_
                    refine ex_block_normal ?_
                    refine ex_seq ?_
                    refine cw_region ?_
                    refine wl_u rfl (ow_y (yh_move rfl rfl) rfl rfl (kk_wl ?_))
                    refine wl_u rfl (ow_y (yh_arI rfl rfl rfl rfl (by omega)) rfl rfl (kk_wl ?_))
                    refine wl_u rfl (ow_y (yh_assign rfl rfl) rfl rfl (kk_wl ?_))
                    refine wl_nil ?_
                    refine ex_unroll ?_
                    refine cw_seq ?_
                    refine cw_seq ?_
                    refine cw_region ?_
                    refine wl_u rfl (ow_y (yh_move rfl rfl) rfl rfl (kk_wl ?_))
                    refine wl_u rfl (ow_y (yh_move rfl rfl) rfl rfl (kk_wl ?_))
                    refine wl_u rfl (ow_y (yh_cmpI rfl rfl rfl rfl) rfl rfl (kk_wl ?_))
                    refine wl_nil ?_
                    refine ex_seq ?_
                    refine cw_split rfl (fun cc60 => ?_) (fun cc60 => ?_)
                    · skip
                      replace h := bt cc60 h
                      exact nosome h
                    · skip
                      replace h := bf cc60 h
                      have q92 := ltb_false.1 cc60
                      refine cw_exit ?_
                      refine ex_then_exit ?_
                      refine ex_then_exit ?_
                      refine ex_block_exit ?_
                      refine ex_seq ?_
                      refine cw_seq ?_
                      refine cw_region ?_
                      refine wl_u rfl (ow_y (yh_loadBA Tb (k := 15) rfl rfl rfl rfl rfl rfl) rfl rfl (kk_wl ?_))
                      refine wl_u rfl (ow_y (yh_move rfl rfl) rfl rfl (kk_wl ?_))
                      refine wl_u rfl (ow_storeA Tb (k := 17) rfl rfl rfl rfl rfl rfl rfl rfl rfl (kk_wl ?_))
                      refine wl_u rfl (ow_y (yh_assign rfl rfl) rfl rfl (kk_wl ?_))
                      refine wl_nil ?_
                      refine ex_seq ?_
                      refine cw_ret ?_
                      obtain rfl := Option.some.inj h
                      exact ex_r2 Tb rfl (.cellA 0 rfl rfl rfl rfl rfl) (.tmp rfl) (fun wq hq => ⟨_, rfl, hq.ext, ⟨a16, c16, F16, a1046, c1046, F1046, rfl, NewC.sel [17, 6] hq rfl⟩⟩)
              · skip
                replace h := bf cc55 h
                have q93 := ltb_false.1 cc55
                refine cw_exit ?_
                refine ex_then_exit ?_
                refine ex_then_exit ?_
                refine ex_block_exit ?_
                refine ex_seq ?_
                refine cw_seq ?_
                refine cw_region ?_
                refine wl_u rfl (ow_y (yh_loadBA Tb (k := 11) rfl rfl rfl rfl rfl rfl) rfl rfl (kk_wl ?_))
                refine wl_u rfl (ow_y (yh_move rfl rfl) rfl rfl (kk_wl ?_))
                refine wl_u rfl (ow_storeA Tb (k := 13) rfl rfl rfl rfl rfl rfl rfl rfl rfl (kk_wl ?_))
                refine wl_u rfl (ow_y (yh_assign rfl rfl) rfl rfl (kk_wl ?_))
                refine wl_nil ?_
                refine ex_seq ?_
                refine cw_ret ?_
                obtain rfl := Option.some.inj h
                exact ex_r2 Tb rfl (.cellA 0 rfl rfl rfl rfl rfl) (.tmp rfl) (fun wq hq => ⟨_, rfl, hq.ext, ⟨a16, c16, F16, a1046, c1046, F1046, rfl, NewC.sel [13, 1] hq rfl⟩⟩)
            · skip
              replace h := bf cc54 h
              have q94 := eqb_false.1 cc54
              refine cw_skip ?_
              refine ex_block_normal ?_
              refine ex_seq ?_
              refine cw_region ?_
              refine wl_u rfl (ow_y (yh_move rfl rfl) rfl rfl (kk_wl ?_))
              refine wl_u rfl (ow_y (yh_arI rfl rfl rfl rfl (by omega)) rfl rfl (kk_wl ?_))
              refine wl_u rfl (ow_y (yh_assign rfl rfl) rfl rfl (kk_wl ?_))
              refine wl_nil ?_
              refine ex_unroll ?_
              refine cw_seq ?_
              refine cw_seq ?_
              refine cw_region ?_
              refine wl_u rfl (ow_y (yh_move rfl rfl) rfl rfl (kk_wl ?_))
              refine wl_u rfl (ow_y (yh_move rfl rfl) rfl rfl (kk_wl ?_))
              refine wl_u rfl (ow_y (yh_cmpI rfl rfl rfl rfl) rfl rfl (kk_wl ?_))
              refine wl_nil ?_
              refine ex_seq ?_
              refine cw_split rfl (fun cc61 => ?_) (fun cc61 => ?_)
              · skip
                replace h := bt cc61 h
                have q95 := ltb_true.1 cc61
                refine cw_skip ?_
                refine ex_seq ?_
                refine cw_seq ?_
                refine cw_block ?_
                refine cw_seq ?_
                refine cw_region ?_
                refine wl_u rfl (ow_y (yh_move rfl rfl) rfl rfl (kk_wl ?_))
                refine wl_u rfl (ow_y (yh_loadBA Tb (k := 9) rfl rfl rfl rfl rfl rfl) rfl rfl (kk_wl ?_))
                obtain ⟨x2028, hx2028, h⟩ := bd h
                refine wl_u rfl (ow_cM1 0 rfl hb27 rfl rfl (fun w hw => c_spec_l92Change N _ _ _ _ hx2028 w (hw.at (i := 0) rfl) (Lay.atR (i := 0) hf14 rfl hw) (rdoR (A := stepsL) 12 0 rfl rfl rfl hw)) rfl rfl (fun a2028 c2028 F2028 => kk_wl ?_))
                refine wl_u rfl (ow_allocA Tb rfl rfl rfl rfl (fun g2010 => kk_wl ?_))
                refine wl_u rfl (ow_storeA Tb (k := 0) rfl rfl rfl rfl rfl rfl rfl rfl rfl (kk_wl ?_))
                refine wl_nil ?_
                refine ex_seq ?_
                refine cw_seq ?_
                refine cw_region ?_
                refine wl_u rfl (ow_y (yh_loadBA Tb (k := 11) rfl rfl rfl rfl rfl rfl) rfl rfl (kk_wl ?_))
                refine wl_u rfl (ow_y (yh_loadBA Tb (k := 0) rfl rfl rfl rfl rfl rfl) rfl rfl (kk_wl ?_))
                obtain ⟨x2032, hx2032, h⟩ := bd h
                refine wl_u rfl (ow_cN1 rfl hb9 rfl (fun w hw => c_spec_FlowChange N _ _ _ hx2032 w (rdo (A := stepsL) 14 rfl hw) (rdo (A := strsL) 1 rfl hw)) rfl rfl (fun a2032 c2032 F2032 => kk_wl ?_))
                refine wl_u rfl (ow_y (yh_move rfl rfl) rfl rfl (kk_wl ?_))
                refine wl_u rfl (ow_y (yh_extract rfl rfl rfl) rfl rfl (kk_wl ?_))
                refine wl_u rfl (ow_y (yh_extract rfl rfl rfl) rfl rfl (kk_wl ?_))
                refine wl_u rfl (ow_allocA Tb rfl rfl rfl rfl (fun g2011 => kk_wl ?_))
                refine wl_u rfl (ow_storeA Tb (k := 0) rfl rfl rfl rfl rfl rfl rfl rfl rfl (kk_wl ?_))
                refine wl_u rfl (ow_y (yh_assign rfl rfl) rfl rfl (kk_wl ?_))
                refine wl_nil ?_
                refine ex_seq ?_
                refine cw_seq ?_
                refine cw_seq ?_
                refine cw_region ?_
                refine wl_u rfl (ow_y (yh_move rfl rfl) rfl rfl (kk_wl ?_))
                refine wl_nil ?_
                refine ex_seq ?_
                refine cw_split rfl (fun cc62 => ?_) (fun cc62 => ?_)
                · skip
                  replace h := bt cc62 h
                  refine cw_region ?_
                  refine wl_u rfl (ow_y (yh_loadBA Tb (k := 0) rfl rfl rfl rfl rfl rfl) rfl rfl (kk_wl ?_))
                  refine wl_u rfl (ow_storeA Tb (k := 13) rfl rfl rfl rfl rfl rfl rfl rfl rfl (kk_wl ?_))
                  refine wl_nil ?_
                  refine ex_seq ?_
                  refine cw_seq ?_
                  refine cw_region ?_
                  refine wl_u rfl (ow_y (yh_move rfl rfl) rfl rfl (kk_wl ?_))
                  refine wl_u rfl (ow_y (yh_move rfl rfl) rfl rfl (kk_wl ?_))
                  refine wl_s rfl rfl (fun _ => ?_) (fun hc => Bool.noConfusion (cc62.symm.trans hc))
                  refine wl_n rfl rfl rfl rfl ?_
                  refine wl_n rfl rfl rfl rfl ?_
                  refine wl_n rfl rfl rfl rfl ?_
                  refine wl_u rfl (ow_y (yh_pickT rfl rfl rfl) rfl rfl (kk_wl ?_))
                  refine wl_nil ?_
                  refine ex_seq ?_
                  refine cw_true rfl ?_
                  refine cw_region ?_
                  refine wl_u rfl (ow_y (yh_move rfl rfl) rfl rfl (kk_wl ?_))
                  refine wl_u rfl (ow_y (yh_loadBA Tb (k := 3) rfl rfl rfl rfl rfl rfl) rfl rfl (kk_wl ?_))
                  refine wl_u rfl (ow_litA Tb rfl rfl rfl rfl rfl rfl (by decide) rfl rfl (fun g2045 => kk_wl ?_))
                  obtain ⟨hll2046, h⟩ := bd_appd h
                  refine wl_u rfl (ow_chg (c' := owC changeL F2028 [.int .i64 x2028.1.kind, .string x2028.1.step.name, .slice a2028 x2028.1.step.after.length c2028, .bool x2028.1.step.undo] x2028.1) 5 rfl (fun w hA => changeL_mk x2028.1 hA) rfl (ow_appE Tb (i := 15) (j := 0) (k := 1) rfl rfl rfl rfl rfl rfl rfl rfl rfl rfl rfl (app1 hll2046) (by decide) rfl rfl (fun a2046 c2046 F2046 => kk_wl ?_)))
                  refine wl_u rfl (ow_y (yh_assign rfl rfl) rfl rfl (kk_wl ?_))
                  refine wl_nil ?_
                  refine ex_block_normal ?_
                  refine ex_seq ?_
                  refine cw_region ?_
                  refine wl_u rfl (ow_y (yh_move rfl rfl) rfl rfl (kk_wl ?_))
                  refine wl_u rfl (ow_y (yh_arI rfl rfl rfl rfl (by omega)) rfl rfl (kk_wl ?_))
                  refine wl_u rfl (ow_y (yh_assign rfl rfl) rfl rfl (kk_wl ?_))
                  refine wl_nil ?_
                  refine ex_unroll ?_
                  refine cw_seq ?_
                  refine cw_seq ?_
                  refine cw_region ?_
                  refine wl_u rfl (ow_y (yh_move rfl rfl) rfl rfl (kk_wl ?_))
                  refine wl_u rfl (ow_y (yh_move rfl rfl) rfl rfl (kk_wl ?_))
                  refine wl_u rfl (ow_y (yh_cmpI rfl rfl rfl rfl) rfl rfl (kk_wl ?_))
                  refine wl_nil ?_
                  refine ex_seq ?_
                  refine cw_split rfl (fun cc63 => ?_) (fun cc63 => ?_)
                  · skip
                    replace h := bt cc63 h
                    exact nosome h
                  · skip
                    replace h := bf cc63 h
                    have q97 := ltb_false.1 cc63
                    refine cw_exit ?_
                    refine ex_then_exit ?_
                    refine ex_then_exit ?_
                    refine ex_block_exit ?_
                    refine ex_seq ?_
                    refine cw_seq ?_
                    refine cw_region ?_
                    refine wl_u rfl (ow_y (yh_loadBA Tb (k := 15) rfl rfl rfl rfl rfl rfl) rfl rfl (kk_wl ?_))
                    refine wl_u rfl (ow_y (yh_move rfl rfl) rfl rfl (kk_wl ?_))
                    refine wl_u rfl (ow_storeA Tb (k := 17) rfl rfl rfl rfl rfl rfl rfl rfl rfl (kk_wl ?_))
                    refine wl_u rfl (ow_y (yh_assign rfl rfl) rfl rfl (kk_wl ?_))
                    refine wl_nil ?_
                    refine ex_seq ?_
                    refine cw_ret ?_
                    obtain rfl := Option.some.inj h
                    exact ex_r2 Tb rfl (.cellA 0 rfl rfl rfl rfl rfl) (.tmp rfl) (fun wq hq => ⟨_, rfl, hq.ext, ⟨a16, c16, F16, a2046, c2046, F2046, rfl, NewC.sel [17, 1] hq rfl⟩⟩)
                · skip
                  replace h := bf cc62 h
                  refine cw_skip ?_
                  refine ex_seq ?_
                  refine cw_seq ?_
                  refine cw_region ?_
                  refine wl_u rfl (ow_y (yh_move rfl rfl) rfl rfl (kk_wl ?_))
                  refine wl_u rfl (ow_y (yh_move rfl rfl) rfl rfl (kk_wl ?_))
                  refine wl_s rfl rfl (fun hc => Bool.noConfusion (cc62.symm.trans hc)) (fun _ => ?_)
                  refine wl_g rfl rfl (ow_y (yh_move rfl rfl) rfl rfl (kk_wl ?_))
                  obtain ⟨x2040, hx2040, h⟩ := bd h
                  have mp2040 := pick_lt hx2040 (by decide)
                  refine wl_g rfl rfl (ow_cM0 4 rfl hb45 rfl rfl (fun w hw => c_spec_l6Rd_pick N _ _ _ _ hx2040 w (hw.at (i := 4) rfl) (Lay.atR (i := 4) hf14 rfl hw)) rfl rfl (kk_wl ?_))
                  refine wl_g rfl rfl (ow_y (yh_cmpI rfl rfl rfl rfl) rfl rfl (kk_wl ?_))
                  refine wl_u rfl (ow_y (yh_pickF rfl rfl rfl) rfl rfl (kk_wl ?_))
                  refine wl_nil ?_
                  refine ex_seq ?_
                  refine cw_split rfl (fun cc64 => ?_) (fun cc64 => ?_)
                  · skip
                    replace h := bt cc64 h
                    have q98 := eqb_true.1 cc64
                    refine cw_region ?_
                    refine wl_u rfl (ow_y (yh_move rfl rfl) rfl rfl (kk_wl ?_))
                    refine wl_u rfl (ow_y (yh_loadBA Tb (k := 3) rfl rfl rfl rfl rfl rfl) rfl rfl (kk_wl ?_))
                    refine wl_u rfl (ow_litA Tb rfl rfl rfl rfl rfl rfl (by decide) rfl rfl (fun g2045 => kk_wl ?_))
                    obtain ⟨hll2046, h⟩ := bd_appd h
                    refine wl_u rfl (ow_chg (c' := owC changeL F2028 [.int .i64 x2028.1.kind, .string x2028.1.step.name, .slice a2028 x2028.1.step.after.length c2028, .bool x2028.1.step.undo] x2028.1) 5 rfl (fun w hA => changeL_mk x2028.1 hA) rfl (ow_appE Tb (i := 15) (j := 0) (k := 1) rfl rfl rfl rfl rfl rfl rfl rfl rfl rfl rfl (app1 hll2046) (by decide) rfl rfl (fun a2046 c2046 F2046 => kk_wl ?_)))
                    refine wl_u rfl (ow_y (yh_assign rfl rfl) rfl rfl (kk_wl ?_))
                    refine wl_nil ?_
                    refine ex_block_normal ?_
                    refine ex_seq ?_
                    refine cw_region ?_
                    refine wl_u rfl (ow_y (yh_move rfl rfl) rfl rfl (kk_wl ?_))
                    refine wl_u rfl (ow_y (yh_arI rfl rfl rfl rfl (by omega)) rfl rfl (kk_wl ?_))
                    refine wl_u rfl (ow_y (yh_assign rfl rfl) rfl rfl (kk_wl ?_))
                    refine wl_nil ?_
                    refine ex_unroll ?_
                    refine cw_seq ?_
                    refine cw_seq ?_
                    refine cw_region ?_
                    refine wl_u rfl (ow_y (yh_move rfl rfl) rfl rfl (kk_wl ?_))
                    refine wl_u rfl (ow_y (yh_move rfl rfl) rfl rfl (kk_wl ?_))
                    refine wl_u rfl (ow_y (yh_cmpI rfl rfl rfl rfl) rfl rfl (kk_wl ?_))
                    refine wl_nil ?_
                    refine ex_seq ?_
                    refine cw_split rfl (fun cc65 => ?_) (fun cc65 => ?_)
                    · skip
                      replace h := bt cc65 h
                      exact nosome h
                    · skip
                      replace h := bf cc65 h
                      have q100 := ltb_false.1 cc65
                      refine cw_exit ?_
                      refine ex_then_exit ?_
                      refine ex_then_exit ?_
                      refine ex_block_exit ?_
                      refine ex_seq ?_
                      refine cw_seq ?_
                      refine cw_region ?_
                      refine wl_u rfl (ow_y (yh_loadBA Tb (k := 15) rfl rfl rfl rfl rfl rfl) rfl rfl (kk_wl ?_))
                      refine wl_u rfl (ow_y (yh_move rfl rfl) rfl rfl (kk_wl ?_))
                      refine wl_u rfl (ow_storeA Tb (k := 17) rfl rfl rfl rfl rfl rfl rfl rfl rfl (kk_wl ?_))
                      refine wl_u rfl (ow_y (yh_assign rfl rfl) rfl rfl (kk_wl ?_))
                      refine wl_nil ?_
                      refine ex_seq ?_
                      refine cw_ret ?_
                      obtain rfl := Option.some.inj h
                      exact ex_r2 Tb rfl (.cellA 0 rfl rfl rfl rfl rfl) (.tmp rfl) (fun wq hq => ⟨_, rfl, hq.ext, ⟨a16, c16, F16, a2046, c2046, F2046, rfl, NewC.sel [17, 1] hq rfl⟩⟩)
                  · skip
                    replace h := bf cc64 h
                    have q101 := eqb_false.1 cc64
                    refine cw_skip ?_
                    refine ex_block_normal ?_
                    refine ex_seq ?_
                    refine cw_region ?_
                    refine wl_u rfl (ow_y (yh_move rfl rfl) rfl rfl (kk_wl ?_))
                    refine wl_u rfl (ow_y (yh_arI rfl rfl rfl rfl (by omega)) rfl rfl (kk_wl ?_))
                    refine wl_u rfl (ow_y (yh_assign rfl rfl) rfl rfl (kk_wl ?_))
                    refine wl_nil ?_
                    refine ex_unroll ?_
                    refine cw_seq ?_
                    refine cw_seq ?_
                    refine cw_region ?_
                    refine wl_u rfl (ow_y (yh_move rfl rfl) rfl rfl (kk_wl ?_))
                    refine wl_u rfl (ow_y (yh_move rfl rfl) rfl rfl (kk_wl ?_))
                    refine wl_u rfl (ow_y (yh_cmpI rfl rfl rfl rfl) rfl rfl (kk_wl ?_))
                    refine wl_nil ?_
                    refine ex_seq ?_
                    refine cw_split rfl (fun cc66 => ?_) (fun cc66 => ?_)
                    · skip
                      replace h := bt cc66 h
                      exact nosome h
                    · skip
                      replace h := bf cc66 h
                      have q103 := ltb_false.1 cc66
                      refine cw_exit ?_
                      refine ex_then_exit ?_
                      refine ex_then_exit ?_
                      refine ex_block_exit ?_
                      refine ex_seq ?_
                      refine cw_seq ?_
                      refine cw_region ?_
                      refine wl_u rfl (ow_y (yh_loadBA Tb (k := 15) rfl rfl rfl rfl rfl rfl) rfl rfl (kk_wl ?_))
                      refine wl_u rfl (ow_y (yh_move rfl rfl) rfl rfl (kk_wl ?_))
                      refine wl_u rfl (ow_storeA Tb (k := 17) rfl rfl rfl rfl rfl rfl rfl rfl rfl (kk_wl ?_))
                      refine wl_u rfl (ow_y (yh_assign rfl rfl) rfl rfl (kk_wl ?_))
                      refine wl_nil ?_
                      refine ex_seq ?_
                      refine cw_ret ?_
                      obtain rfl := Option.some.inj h
                      exact ex_r2 Tb rfl (.cellA 0 rfl rfl rfl rfl rfl) (.tmp rfl) (fun wq hq => ⟨_, rfl, hq.ext, ⟨a16, c16, F16, (some ⟨g17, 0, none⟩), 0, [g17], rfl, NewC.sel [17, 15] hq rfl⟩⟩)
              · skip
                replace h := bf cc61 h
                have q104 := ltb_false.1 cc61
                refine cw_exit ?_
                refine ex_then_exit ?_
                refine ex_then_exit ?_
                refine ex_block_exit ?_
                refine ex_seq ?_
                refine cw_seq ?_
                refine cw_region ?_
                refine wl_u rfl (ow_y (yh_loadBA Tb (k := 11) rfl rfl rfl rfl rfl rfl) rfl rfl (kk_wl ?_))
                refine wl_u rfl (ow_y (yh_move rfl rfl) rfl rfl (kk_wl ?_))
                refine wl_u rfl (ow_storeA Tb (k := 13) rfl rfl rfl rfl rfl rfl rfl rfl rfl (kk_wl ?_))
                refine wl_u rfl (ow_y (yh_assign rfl rfl) rfl rfl (kk_wl ?_))
                refine wl_nil ?_
                refine ex_seq ?_
                refine cw_ret ?_
                obtain rfl := Option.some.inj h
                exact ex_r2 Tb rfl (.cellA 0 rfl rfl rfl rfl rfl) (.tmp rfl) (fun wq hq => ⟨_, rfl, hq.ext, ⟨a16, c16, F16, (some ⟨g17, 0, none⟩), 0, [g17], rfl, NewC.sel [13, 11] hq rfl⟩⟩)
        · skip
          replace h := bf cc46 h
          have q105 := ltb_false.1 cc46
          refine cw_exit ?_
          refine ex_then_exit ?_
          refine ex_then_exit ?_
          refine ex_block_exit ?_
          refine ex_seq ?_
          refine cw_seq ?_
          refine cw_region ?_
          refine wl_u rfl (ow_y (yh_loadBA Tb (k := 7) rfl rfl rfl rfl rfl rfl) rfl rfl (kk_wl ?_))
          refine wl_u rfl (ow_y (yh_move rfl rfl) rfl rfl (kk_wl ?_))
          refine wl_u rfl (ow_storeA Tb (k := 9) rfl rfl rfl rfl rfl rfl rfl rfl rfl (kk_wl ?_))
          refine wl_u rfl (ow_y (yh_assign rfl rfl) rfl rfl (kk_wl ?_))
          refine wl_nil ?_
          refine ex_seq ?_
          refine cw_ret ?_
          obtain rfl := Option.some.inj h
          exact ex_r2 Tb rfl (.cellA 0 rfl rfl rfl rfl rfl) (.tmp rfl) (fun wq hq => ⟨_, rfl, hq.ext, ⟨a16, c16, F16, (some ⟨g17, 0, none⟩), 0, [g17], rfl, NewC.sel [9, 7] hq rfl⟩⟩)
  · skip
    replace h := bf cc1 h
    have q106 := ltb_false.1 cc1
    refine cw_exit ?_
    refine ex_then_exit ?_
    refine ex_then_exit ?_
    refine ex_block_exit ?_
    refine ex_seq ?_
    refine cw_seq ?_
    refine cw_region ?_
    refine wl_u rfl (ow_y (yh_loadBA Tb (k := 3) rfl rfl rfl rfl rfl rfl) rfl rfl (kk_wl ?_))
    refine wl_u rfl (ow_y (yh_move rfl rfl) rfl rfl (kk_wl ?_))
    refine wl_u rfl (ow_storeA Tb (k := 5) rfl rfl rfl rfl rfl rfl rfl rfl rfl (kk_wl ?_))
    refine wl_u rfl (ow_y (yh_assign rfl rfl) rfl rfl (kk_wl ?_))
    refine wl_nil ?_
    refine ex_seq ?_
    refine cw_ret ?_
    obtain rfl := Option.some.inj h
    exact ex_r2 Tb rfl (.cellA 0 rfl rfl rfl rfl rfl) (.tmp rfl) (fun wq hq => ⟨_, rfl, hq.ext, ⟨a16, c16, F16, (some ⟨g17, 0, none⟩), 0, [g17], rfl, NewC.sel [5, 3] hq rfl⟩⟩)

def m_impl_Flow_names_L5 (N : Nat) (f : Flow) : Nat → (List Str) → Nat → Option (Ex (List Str × Nat) (List Str))
  | 0, _, _ => none
  | n + 1, s3, s9 => (bif ltb ((s9 : Nat) : Int) ((f.steps.length : Nat) : Int) then (f.steps[s9]?).bind fun y11 => (appd s3 ([y11.name] : List Str)).bind fun l17 => m_impl_Flow_names_L5 N f n (s3 ++ ([y11.name] : List Str)) (s9 + 1)
 else some (Ex.brk (s3, s9)))

def m_impl_Flow_names (N : Nat) (f : Flow) : Option (List Str) := (m_impl_Flow_names_L5 N f N ([] : List Str) 0).bind fun e5 => e5.go (fun r => r) fun b5 => some b5.1

set_option maxHeartbeats 4000000 in
theorem c_impl_Flow_names (N : Nat) (f : Flow) (res : List Str) (h : m_impl_Flow_names N f = some res) (w : World) {a_f_steps : Option Addr} {c_f_steps : Nat} (h_f_steps : stepsL.rd w [] [.slice a_f_steps f.steps.length c_f_steps] f.steps) : Ret Try.prog 44 [.agg #[.int .i64 f.ver, .slice a_f_steps f.steps.length c_f_steps]] w [] fun v w' => ∃ a1 c1 F1, v = .slice a1 res.length c1 ∧ NewC w w' [owC strsL F1 [.slice a1 res.length c1] res] := by
  have mh_f_steps := rd_max h_f_steps
  unfold m_impl_Flow_names at h
  refine ret_enter Try.func44 rfl Try.ntmps44 rfl (Hp.refl w _) ?_
  refine cw_seq ?_
  refine cw_region ?_
  refine wl_u rfl (ow_boxA rfl rfl rfl rfl (fun g1 => kk_wl ?_))
  refine wl_u rfl (ow_y (yh_assign rfl rfl) rfl rfl (kk_wl ?_))
  refine wl_nil ?_
  refine ex_seq ?_
  refine cw_seq ?_
  refine cw_region ?_
  refine wl_u rfl (ow_y (yh_assign rfl rfl) rfl rfl (kk_wl ?_))
  refine wl_nil ?_
  refine ex_seq ?_
  refine cw_seq ?_
  refine cw_seq ?_
  refine cw_region ?_
  refine wl_u rfl (ow_y (yh_field Tb rfl rfl rfl) rfl rfl (kk_wl ?_))
  refine wl_u rfl (ow_y (yh_loadB Tb (k := 0) rfl rfl rfl rfl rfl) rfl rfl (kk_wl ?_))
  refine wl_u rfl (ow_y (yh_lenS Tb rfl rfl rfl rfl) rfl rfl (kk_wl ?_))
  refine wl_u rfl (ow_y (yh_move rfl rfl) rfl rfl (kk_wl ?_))
  refine wl_nil ?_
  refine ex_seq ?_
  refine cw_block ?_
  obtain ⟨e5, he5, hk5⟩ := bd h
  clear h
  refine cw_nilS strsL rfl ?_
  refine cw_loopG (σ := Nat × (List Str) × Nat × (Option Addr) × Nat × (List Nat)) (fun s => m_impl_Flow_names_L5 N f s.1 s.2.1 s.2.2.1 = some e5) (fun s => [(3, .slice s.2.2.2.1 s.2.1.length s.2.2.2.2.1), (7, .slice a_f_steps f.steps.length c_f_steps), (8, .int .i64 ((f.steps.length : Nat) : Int)), (9, .int .i64 ((s.2.2.1 : Nat) : Int))]) (fun s => [owC strsL s.2.2.2.2.2 [.slice s.2.2.2.1 s.2.1.length s.2.2.2.2.1] s.2.1]) (fun s => s.1) (N, ([] : List Str), 0, none, 0, []) [0] he5 ⟨rfl, rfl, rfl, rfl, trivial⟩ rfl (fun KL s he5 hn5 => ?_)
  obtain ⟨n5, s3, s9, as3, cs3, Fs3⟩ := s
  simp only at he5 hn5 ⊢
  rcases n5 with _ | n5
  · exact nosome he5
  have h := he5; rw [m_impl_Flow_names_L5] at h
  refine cw_seq ?_
  refine cw_region ?_
  refine wl_u rfl (ow_y (yh_cmpI rfl rfl rfl rfl) rfl rfl (kk_wl ?_))
  refine wl_nil ?_
  refine ex_seq ?_
  refine cw_seq ?_
  refine cw_split rfl (fun cc1 => ?_) (fun cc1 => ?_)
  · skip
    replace h := bt cc1 h
    have q1 := ltb_true.1 cc1
    refine cw_skip ?_
    refine ex_seq ?_
    refine cw_seq ?_
    refine cw_block ?_
    refine cw_seq ?_
    refine cw_region ?_
    obtain ⟨y11, hy11, h⟩ := bd h
    obtain ⟨b11, o11, ha11⟩ := sl_addr h_f_steps hy11
    subst ha11
    obtain ⟨a11, e11, hc11, hf11⟩ := get_step h_f_steps hy11
    have mx11 := rd_max hf11
    refine wl_u rfl (ow_y (yh_idx Tb (k := s9) rfl rfl rfl rfl (get_lt hy11) rfl rfl) rfl rfl (kk_wl ?_))
    refine wl_u rfl (ow_y (yh_loadAN Tb rfl rfl rfl rfl hc11 rfl) rfl rfl (kk_wl ?_))
    refine wl_u rfl (ow_allocA Tb rfl rfl rfl rfl (fun g5 => kk_wl ?_))
    refine wl_u rfl (ow_storeA Tb (k := 0) rfl rfl rfl rfl rfl rfl rfl rfl rfl (kk_wl ?_))
    refine wl_nil ?_
    refine ex_seq ?_
    refine cw_region ?_
    refine wl_u rfl (ow_y (yh_move rfl rfl) rfl rfl (kk_wl ?_))
    refine wl_u rfl (ow_y (yh_field Tb rfl rfl rfl) rfl rfl (kk_wl ?_))
    refine wl_u rfl (ow_y (yh_loadB Tb (k := 0) rfl rfl rfl rfl rfl) rfl rfl (kk_wl ?_))
    refine wl_u rfl (ow_lit1 Tb rfl rfl rfl rfl rfl rfl rfl rfl rfl rfl (fun g16 => kk_chg (c' := owC strsL [g16] [.slice (some ⟨g16, 0, none⟩) 1 1] ([y11.name] : List Str)) 0 rfl (fun w hA => own_strsL ([y11.name] : List Str) hA rfl (by simp [maxLen])) rfl (kk_wl ?_)))
    obtain ⟨hll17, h⟩ := bd_appd h
    refine wl_u rfl (ow_appP Tb (i := 2) rfl rfl rfl rfl rfl (fun w hw => rdo (A := strsL) 0 rfl hw) rfl rfl rfl rfl hll17 (by decide) rfl rfl (fun a17 c17 F17 => kk_wl ?_))
    refine wl_u rfl (ow_y (yh_assign rfl rfl) rfl rfl (kk_wl ?_))
    refine wl_nil ?_
    refine ex_block_normal ?_
    refine ex_seq ?_
    refine cw_region ?_
    refine wl_u rfl (ow_y (yh_arI rfl rfl rfl rfl (by omega)) rfl rfl (kk_wl ?_))
    refine wl_u rfl (ow_y (yh_move rfl rfl) rfl rfl (kk_wl ?_))
    refine wl_nil ?_
    exact ex_next [0] (hn5 (n5, (s3 ++ ([y11.name] : List Str)), s9 + 1, a17, c17, F17) (Nat.lt_succ_self _) h) ⟨rfl, rfl, rfl, rfl, trivial⟩ (by kernel_rfl)
  · skip
    replace h := bf cc1 h
    have q2 := ltb_false.1 cc1
    refine cw_exit ?_
    refine ex_then_exit ?_
    refine ex_then_exit ?_
    obtain rfl := Option.some.inj h
    have h := go_brk hk5
    refine ex_block_exit ?_
    refine ex_seq ?_
    refine cw_seq ?_
    refine cw_region ?_
    refine wl_u rfl (ow_y (yh_move rfl rfl) rfl rfl (kk_wl ?_))
    refine wl_u rfl (ow_y (yh_assign rfl rfl) rfl rfl (kk_wl ?_))
    refine wl_nil ?_
    refine ex_seq ?_
    refine cw_ret ?_
    obtain rfl := Option.some.inj h
    exact ex_r1 Tb rfl (.tmp rfl) (fun wq hq => ⟨_, rfl, hq.ext, ⟨as3, cs3, Fs3, rfl, NewC.sel [0] hq rfl⟩⟩)

end Go.Proofs.Ytmnhnldnnniglaa
