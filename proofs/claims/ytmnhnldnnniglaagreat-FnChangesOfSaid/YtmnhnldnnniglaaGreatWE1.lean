/- Mirrors and contracts, printed by a program: what each function computes as a plain term, and that it does. -/
import Derived.Test.YtmnhnldnnniglaaGreatR
import Derived.Test.YtmnhnldnnniglaaGreatK
import Derived.Test.YtmnhnldnnniglaaGreatWE0
set_option linter.all false
set_option maxRecDepth 100000
namespace Go.Proofs.YtmnhnldnnniglaaGreat
open Go.RowKit

def m_spec_l12Without_L16 (N : Nat) (u1 : Str) (x29 : Step) : Nat → (List Str) → Nat → Option (Ex (List Str × Nat) (List Step))
  | 0, _, _ => none
  | n + 1, s9, s10 => (bif ltb ((s10 : Nat) : Int) ((x29.after.length : Nat) : Int) then (x29.after[s10]?).bind fun y46 => (bif !(seq y46 u1) then (m_spec_l1Put N s9 y46).bind fun x56 => m_spec_l12Without_L16 N u1 x29 n x56 (s10 + 1)
 else m_spec_l12Without_L16 N u1 x29 n s9 (s10 + 1))
 else some (Ex.brk (s9, s10)))

def m_spec_l12Without_L23 (N : Nat) (y17 : Step) : Nat → (List Str) → Nat → Option (Ex (List Str × Nat) (List Step))
  | 0, _, _ => none
  | n + 1, s9, s11 => (bif ltb ((s11 : Nat) : Int) ((y17.after.length : Nat) : Int) then (y17.after[s11]?).bind fun y68 => (m_spec_l1Put N s9 y68).bind fun x70 => m_spec_l12Without_L23 N y17 n x70 (s11 + 1)
 else some (Ex.brk (s9, s11)))

def m_spec_l12Without_L6 (N : Nat) (u0 : List Step) (u1 : Str) (y17 : Step) : Nat → (List Step) → Nat → Option (Ex (List Step × Nat) (List Step))
  | 0, _, _ => none
  | n + 1, s5, s7 => (bif ltb ((s7 : Nat) : Int) ((u0.length : Nat) : Int) then (u0[s7]?).bind fun y27 => (m_spec_l2Step N y27).bind fun x29 => (m_spec_l1At N x29.after u1).bind fun x33 => (bif leb 0 x33 then (m_spec_l12Without_L16 N u1 x29 N ([] : List Str) 0).bind fun e16 => e16.go Ex.ret fun b16 => (m_spec_l12Without_L23 N y17 N b16.1 0).bind fun e23 => e23.go Ex.ret fun b23 => (bif !(seq x29.name u1) then (appd s5 [(Step.mk x29.name b23.1 x29.undo)]).bind fun l80 => m_spec_l12Without_L6 N u0 u1 y17 n (s5 ++ [(Step.mk x29.name b23.1 x29.undo)]) (s7 + 1)
 else m_spec_l12Without_L6 N u0 u1 y17 n s5 (s7 + 1))
 else (bif !(seq x29.name u1) then (appd s5 [x29]).bind fun l80 => m_spec_l12Without_L6 N u0 u1 y17 n (s5 ++ [x29]) (s7 + 1)
 else m_spec_l12Without_L6 N u0 u1 y17 n s5 (s7 + 1)))
 else some (Ex.brk (s5, s7)))

def m_spec_l12Without (N : Nat) (u0 : List Step) (u1 : Str) : Option (List Step) := (m_spec_l2At N u0 u1).bind fun x16 => (geti u0 x16).bind fun y17 => (m_spec_l12Without_L6 N u0 u1 y17 N ([] : List Step) 0).bind fun e6 => e6.go (fun r => r) fun b6 => some b6.1

set_option maxHeartbeats 4000000 in
theorem c_spec_l12Without (N : Nat) (u0 : List Step) (u1 : Str) (res : List Step) (h : m_spec_l12Without N u0 u1 = some res) (w : World) {a_u0 : Option Addr} {c_u0 : Nat} (h_u0 : stepsL.rd w [] [.slice a_u0 u0.length c_u0] u0) : Ret Tryz.prog 117 [.slice a_u0 u0.length c_u0, .string u1] w [] fun v w' => ∃ a1 c1 F1, v = .slice a1 res.length c1 ∧ NewC w w' [owC stepsL F1 [.slice a1 res.length c1] res] := by
  have mh_u0 := rd_max h_u0
  unfold m_spec_l12Without at h
  refine ret_enter Tryz.func117 rfl Tryz.ntmps117 rfl (Hp.refl w _) ?_
  refine cw_seq ?_
  refine cw_region ?_
  refine wl_u rfl (ow_y (yh_assign rfl rfl) rfl rfl (kk_wl ?_))
  refine wl_nil ?_
  refine ex_seq ?_
  refine cw_seq ?_
  refine cw_region ?_
  refine wl_u rfl (ow_lit0 Tb rfl rfl rfl rfl rfl rfl (fun g12 => kk_chg (c' := owC stepsL [g12] [.slice (some ⟨g12, 0, none⟩) 0 0] ([] : List Step)) 0 rfl (fun w hA => own_stepsL ([] : List Step) hA rfl (by simp [maxLen])) rfl (kk_wl ?_)))
  refine wl_u rfl (ow_y (yh_assign rfl rfl) rfl rfl (kk_wl ?_))
  refine wl_nil ?_
  refine ex_seq ?_
  refine cw_seq ?_
  refine cw_region ?_
  refine wl_u rfl (ow_y (yh_move rfl rfl) rfl rfl (kk_wl ?_))
  refine wl_u rfl (ow_y (yh_move rfl rfl) rfl rfl (kk_wl ?_))
  refine wl_u rfl (ow_y (yh_move rfl rfl) rfl rfl (kk_wl ?_))
  obtain ⟨x16, hx16, h⟩ := bd h
  refine wl_u rfl (ow_cV rfl hb84 rfl (fun w hw => c_spec_l2At N _ _ _ hx16 w (Lay.at_ h_u0 hw)) rfl rfl (kk_wl ?_))
  obtain ⟨y17, zy17, h⟩ := bd h
  obtain ⟨iy17, hy17⟩ := geti_some zy17
  obtain ⟨b17, o17, ha17⟩ := sl_addr h_u0 hy17
  subst ha17
  obtain ⟨a17, e17, hc17, hf17⟩ := get_step h_u0 hy17
  have mx17 := rd_max hf17
  refine wl_u rfl (ow_y (yh_idx Tb (k := x16.toNat) rfl rfl rfl iy17 (get_lt hy17) rfl rfl) rfl rfl (kk_wl ?_))
  refine wl_u rfl (ow_y (yh_loadAN Tb rfl rfl rfl rfl hc17 rfl) rfl rfl (kk_wl ?_))
  refine wl_u rfl (ow_allocA Tb rfl rfl rfl rfl (fun g6 => kk_wl ?_))
  refine wl_u rfl (ow_storeA Tb (k := 0) rfl rfl rfl rfl rfl rfl rfl rfl rfl (kk_wl ?_))
  refine wl_nil ?_
  refine ex_seq ?_
  refine cw_seq ?_
  refine cw_seq ?_
  refine cw_region ?_
  refine wl_u rfl (ow_y (yh_assign rfl rfl) rfl rfl (kk_wl ?_))
  refine wl_nil ?_
  refine ex_seq ?_
  refine cw_block ?_
  obtain ⟨e6, he6, hk6⟩ := bd h
  clear h
  refine cw_loopG (σ := Nat × (List Step) × Nat × (Option Addr) × Nat × (List Nat)) (fun s => m_spec_l12Without_L6 N u0 u1 y17 s.1 s.2.1 s.2.2.1 = some e6) (fun s => [(0, .slice (some ⟨b17, o17, none⟩) u0.length c_u0), (1, .string u1), (5, .slice s.2.2.2.1 s.2.1.length s.2.2.2.2.1), (6, .pointer (some ⟨g6, 0, none⟩)), (7, .int .i64 ((s.2.2.1 : Nat) : Int))]) (fun s => [owC stepsL s.2.2.2.2.2 [.slice s.2.2.2.1 s.2.1.length s.2.2.2.2.1] s.2.1, blkC g6 49 [.string y17.name, .slice a17 y17.after.length e17, .bool y17.undo]]) (fun s => s.1) (N, ([] : List Step), 0, (some ⟨g12, 0, none⟩), 0, [g12]) [1, 0] he6 ⟨rfl, rfl, rfl, rfl, rfl, trivial⟩ rfl (fun KL s he6 hn6 => ?_)
  obtain ⟨n6, s5, s7, as5, cs5, Fs5⟩ := s
  simp only at he6 hn6 ⊢
  rcases n6 with _ | n6
  · exact nosome he6
  have h := he6; rw [m_spec_l12Without_L6] at h
  refine cw_seq ?_
  refine cw_seq ?_
  refine cw_region ?_
  refine wl_u rfl (ow_y (yh_move rfl rfl) rfl rfl (kk_wl ?_))
  refine wl_u rfl (ow_y (yh_move rfl rfl) rfl rfl (kk_wl ?_))
  refine wl_u rfl (ow_y (yh_lenS Tb rfl rfl rfl rfl) rfl rfl (kk_wl ?_))
  refine wl_u rfl (ow_y (yh_cmpI rfl rfl rfl rfl) rfl rfl (kk_wl ?_))
  refine wl_nil ?_
  refine ex_seq ?_
  refine cw_split rfl (fun c1 => ?_) (fun c1 => ?_)
  · skip
    replace h := bt c1 h
    have q1 := ltb_true.1 c1
    refine cw_skip ?_
    refine ex_seq ?_
    refine cw_seq ?_
    refine cw_block ?_
    refine cw_seq ?_
    refine cw_region ?_
    refine wl_u rfl (ow_y (yh_move rfl rfl) rfl rfl (kk_wl ?_))
    refine wl_u rfl (ow_y (yh_move rfl rfl) rfl rfl (kk_wl ?_))
    obtain ⟨y27, hy27, h⟩ := bd h
    obtain ⟨a27, e27, hc27, hf27⟩ := get_step h_u0 hy27
    have mx27 := rd_max hf27
    refine wl_u rfl (ow_y (yh_idx Tb (k := s7) rfl rfl rfl rfl (get_lt hy27) rfl rfl) rfl rfl (kk_wl ?_))
    refine wl_u rfl (ow_y (yh_loadAN Tb rfl rfl rfl rfl hc27 rfl) rfl rfl (kk_wl ?_))
    obtain ⟨x29, hx29, h⟩ := bd h
    refine wl_u rfl (ow_cN1 rfl hb88 rfl (fun w hw => c_spec_l2Step N _ _ hx29 w (Lay.at_ hf27 hw)) rfl rfl (fun a29 c29 F29 => kk_wl ?_))
    refine wl_u rfl (ow_allocA Tb rfl rfl rfl rfl (fun g8 => kk_wl ?_))
    refine wl_u rfl (ow_storeA Tb (k := 0) rfl rfl rfl rfl rfl rfl rfl rfl rfl (kk_wl ?_))
    refine wl_nil ?_
    refine ex_seq ?_
    refine cw_seq ?_
    refine cw_seq ?_
    refine cw_region ?_
    refine wl_u rfl (ow_y (yh_field Tb rfl rfl rfl) rfl rfl (kk_wl ?_))
    refine wl_u rfl (ow_y (yh_loadB Tb (k := 0) rfl rfl rfl rfl rfl) rfl rfl (kk_wl ?_))
    refine wl_u rfl (ow_y (yh_move rfl rfl) rfl rfl (kk_wl ?_))
    obtain ⟨x33, hx33, h⟩ := bd h
    refine wl_u rfl (ow_cV rfl hb67 rfl (fun w hw => c_spec_l1At N _ _ _ hx33 w (rdo (A := strsL) 1 rfl hw)) rfl rfl (kk_wl ?_))
    refine wl_u rfl (ow_y (yh_cmpI rfl rfl rfl rfl) rfl rfl (kk_wl ?_))
    refine wl_nil ?_
    refine ex_seq ?_
    refine cw_split rfl (fun c2 => ?_) (fun c2 => ?_)
    · skip
      replace h := bt c2 h
      have q2 := leb_true.1 c2
      refine cw_seq ?_
      refine cw_region ?_
      refine wl_u rfl (ow_lit0 Tb rfl rfl rfl rfl rfl rfl (fun g35 => kk_chg (c' := owC strsL [g35] [.slice (some ⟨g35, 0, none⟩) 0 0] ([] : List Str)) 0 rfl (fun w hA => own_strsL ([] : List Str) hA rfl (by simp [maxLen])) rfl (kk_wl ?_)))
      refine wl_u rfl (ow_y (yh_assign rfl rfl) rfl rfl (kk_wl ?_))
      refine wl_nil ?_
      refine ex_seq ?_
      refine cw_seq ?_
      refine cw_seq ?_
      refine cw_region ?_
      refine wl_u rfl (ow_y (yh_assign rfl rfl) rfl rfl (kk_wl ?_))
      refine wl_nil ?_
      refine ex_seq ?_
      refine cw_block ?_
      obtain ⟨e16, he16, hk16⟩ := bd h
      clear h
      refine cw_loopG (σ := Nat × (List Str) × Nat × (Option Addr) × Nat × (List Nat)) (fun s => m_spec_l12Without_L16 N u1 x29 s.1 s.2.1 s.2.2.1 = some e16) (fun s => [(0, .slice (some ⟨b17, o17, none⟩) u0.length c_u0), (1, .string u1), (5, .slice as5 s5.length cs5), (6, .pointer (some ⟨g6, 0, none⟩)), (7, .int .i64 ((s7 : Nat) : Int)), (8, .pointer (some ⟨g8, 0, none⟩)), (9, .slice s.2.2.2.1 s.2.1.length s.2.2.2.2.1), (10, .int .i64 ((s.2.2.1 : Nat) : Int))]) (fun s => [owC stepsL Fs5 [.slice as5 s5.length cs5] s5, blkC g6 49 [.string y17.name, .slice a17 y17.after.length e17, .bool y17.undo], blkC g8 49 [.string x29.name, .slice a29 x29.after.length c29, .bool x29.undo], owC strsL F29 [.slice a29 x29.after.length c29] x29.after, owC strsL s.2.2.2.2.2 [.slice s.2.2.2.1 s.2.1.length s.2.2.2.2.1] s.2.1]) (fun s => s.1) (N, ([] : List Str), 0, (some ⟨g35, 0, none⟩), 0, [g35]) [3, 4, 1, 2, 0] he16 ⟨rfl, rfl, rfl, rfl, rfl, rfl, rfl, rfl, trivial⟩ rfl (fun KL s he16 hn16 => ?_)
      obtain ⟨n16, s9, s10, as9, cs9, Fs9⟩ := s
      simp only at he16 hn16 ⊢
      rcases n16 with _ | n16
      · exact nosome he16
      have h := he16; rw [m_spec_l12Without_L16] at h
      refine cw_seq ?_
      refine cw_seq ?_
      refine cw_region ?_
      refine wl_u rfl (ow_y (yh_move rfl rfl) rfl rfl (kk_wl ?_))
      refine wl_u rfl (ow_y (yh_field Tb rfl rfl rfl) rfl rfl (kk_wl ?_))
      refine wl_u rfl (ow_y (yh_loadB Tb (k := 2) rfl rfl rfl rfl rfl) rfl rfl (kk_wl ?_))
      refine wl_know (x29.after.length ≤ 9223372036854775807) (fun w hw => own_max 3 rfl hw) (fun mo39 => ?_)
      refine wl_u rfl (ow_y (yh_lenS Tb rfl rfl rfl rfl) rfl rfl (kk_wl ?_))
      refine wl_u rfl (ow_y (yh_cmpI rfl rfl rfl rfl) rfl rfl (kk_wl ?_))
      refine wl_nil ?_
      refine ex_seq ?_
      refine cw_split rfl (fun c3 => ?_) (fun c3 => ?_)
      · skip
        replace h := bt c3 h
        have q3 := ltb_true.1 c3
        refine cw_skip ?_
        refine ex_seq ?_
        refine cw_seq ?_
        refine cw_block ?_
        refine cw_seq ?_
        refine cw_region ?_
        refine wl_u rfl (ow_y (yh_field Tb rfl rfl rfl) rfl rfl (kk_wl ?_))
        refine wl_u rfl (ow_y (yh_loadB Tb (k := 2) rfl rfl rfl rfl rfl) rfl rfl (kk_wl ?_))
        refine wl_u rfl (ow_y (yh_move rfl rfl) rfl rfl (kk_wl ?_))
        obtain ⟨y46, hy46, h⟩ := bd h
        refine wl_ex (fun g => a29 = some ⟨g, 0, none⟩) (fun w hw => by exact own_addrK 3 rfl hy46 hw) (fun g46 hg46 => ?_)
        subst hg46
        refine wl_u rfl (ow_y (yh_idx Tb (k := s10) rfl rfl rfl rfl (get_lt hy46) rfl rfl) rfl rfl (kk_wl ?_))
        refine wl_u rfl (ow_y (yh_loadO0 Tb 3 rfl rfl rfl rfl rfl hy46 rfl) rfl rfl (kk_wl ?_))
        refine wl_u rfl (ow_y (yh_move rfl rfl) rfl rfl (kk_wl ?_))
        refine wl_u rfl (ow_y (yh_cmpS rfl rfl rfl rfl) rfl rfl (kk_wl ?_))
        refine wl_nil ?_
        refine ex_seq ?_
        refine cw_split rfl (fun c4 => ?_) (fun c4 => ?_)
        · skip
          replace h := bt c4 h
          refine cw_region ?_
          refine wl_u rfl (ow_y (yh_move rfl rfl) rfl rfl (kk_wl ?_))
          refine wl_u rfl (ow_y (yh_field Tb rfl rfl rfl) rfl rfl (kk_wl ?_))
          refine wl_u rfl (ow_y (yh_loadB Tb (k := 2) rfl rfl rfl rfl rfl) rfl rfl (kk_wl ?_))
          refine wl_u rfl (ow_y (yh_move rfl rfl) rfl rfl (kk_wl ?_))
          refine wl_u rfl (ow_y (yh_idx Tb (k := s10) rfl rfl rfl rfl (get_lt hy46) rfl rfl) rfl rfl (kk_wl ?_))
          refine wl_u rfl (ow_y (yh_loadO0 Tb 3 rfl rfl rfl rfl rfl hy46 rfl) rfl rfl (kk_wl ?_))
          obtain ⟨x56, hx56, h⟩ := bd h
          refine wl_u rfl (ow_cN1 rfl hb138 rfl (fun w hw => c_spec_l1Put N _ _ _ hx56 w (rdo (A := strsL) 4 rfl hw)) rfl rfl (fun a56 c56 F56 => kk_wl ?_))
          refine wl_u rfl (ow_y (yh_assign rfl rfl) rfl rfl (kk_wl ?_))
          refine wl_nil ?_
          refine ex_block_normal ?_
          refine ex_seq ?_
          refine cw_region ?_
          refine wl_u rfl (ow_y (yh_move rfl rfl) rfl rfl (kk_wl ?_))
          refine wl_u rfl (ow_y (yh_arI rfl rfl rfl rfl (by omega)) rfl rfl (kk_wl ?_))
          refine wl_u rfl (ow_y (yh_assign rfl rfl) rfl rfl (kk_wl ?_))
          refine wl_nil ?_
          exact ex_next [1, 2, 3, 4, 0] (hn16 (n16, x56, s10 + 1, a56, c56, F56) (Nat.lt_succ_self _) h) ⟨rfl, rfl, rfl, rfl, rfl, rfl, rfl, rfl, trivial⟩ (by kernel_rfl)
        · skip
          replace h := bf c4 h
          refine cw_skip ?_
          refine ex_block_normal ?_
          refine ex_seq ?_
          refine cw_region ?_
          refine wl_u rfl (ow_y (yh_move rfl rfl) rfl rfl (kk_wl ?_))
          refine wl_u rfl (ow_y (yh_arI rfl rfl rfl rfl (by omega)) rfl rfl (kk_wl ?_))
          refine wl_u rfl (ow_y (yh_assign rfl rfl) rfl rfl (kk_wl ?_))
          refine wl_nil ?_
          exact ex_next [0, 1, 2, 3, 4] (hn16 (n16, s9, s10 + 1, as9, cs9, Fs9) (Nat.lt_succ_self _) h) ⟨rfl, rfl, rfl, rfl, rfl, rfl, rfl, rfl, trivial⟩ (by kernel_rfl)
      · skip
        replace h := bf c3 h
        have q4 := ltb_false.1 c3
        refine cw_exit ?_
        refine ex_then_exit ?_
        refine ex_then_exit ?_
        obtain rfl := Option.some.inj h
        have h := go_brk hk16
        refine ex_block_exit ?_
        refine ex_seq ?_
        refine cw_seq ?_
        refine cw_seq ?_
        refine cw_region ?_
        refine wl_u rfl (ow_y (yh_assign rfl rfl) rfl rfl (kk_wl ?_))
        refine wl_nil ?_
        refine ex_seq ?_
        refine cw_block ?_
        obtain ⟨e23, he23, hk23⟩ := bd h
        clear h
        refine cw_loopG (σ := Nat × (List Str) × Nat × (Option Addr) × Nat × (List Nat)) (fun s => m_spec_l12Without_L23 N y17 s.1 s.2.1 s.2.2.1 = some e23) (fun s => [(0, .slice (some ⟨b17, o17, none⟩) u0.length c_u0), (1, .string u1), (5, .slice as5 s5.length cs5), (6, .pointer (some ⟨g6, 0, none⟩)), (7, .int .i64 ((s7 : Nat) : Int)), (8, .pointer (some ⟨g8, 0, none⟩)), (9, .slice s.2.2.2.1 s.2.1.length s.2.2.2.2.1), (11, .int .i64 ((s.2.2.1 : Nat) : Int))]) (fun s => [owC stepsL Fs5 [.slice as5 s5.length cs5] s5, blkC g6 49 [.string y17.name, .slice a17 y17.after.length e17, .bool y17.undo], blkC g8 49 [.string x29.name, .slice a29 x29.after.length c29, .bool x29.undo], owC strsL F29 [.slice a29 x29.after.length c29] x29.after, owC strsL s.2.2.2.2.2 [.slice s.2.2.2.1 s.2.1.length s.2.2.2.2.1] s.2.1]) (fun s => s.1) (N, s9, 0, as9, cs9, Fs9) [0, 1, 2, 3, 4] he23 ⟨rfl, rfl, rfl, rfl, rfl, rfl, rfl, rfl, trivial⟩ rfl (fun KL s he23 hn23 => ?_)
        obtain ⟨n23, s9, s11, as9, cs9, Fs9⟩ := s
        simp only at he23 hn23 ⊢
        rcases n23 with _ | n23
        · exact nosome he23
        have h := he23; rw [m_spec_l12Without_L23] at h
        refine cw_seq ?_
        refine cw_seq ?_
        refine cw_region ?_
        refine wl_u rfl (ow_y (yh_move rfl rfl) rfl rfl (kk_wl ?_))
        refine wl_u rfl (ow_y (yh_field Tb rfl rfl rfl) rfl rfl (kk_wl ?_))
        refine wl_u rfl (ow_y (yh_loadB Tb (k := 1) rfl rfl rfl rfl rfl) rfl rfl (kk_wl ?_))
        refine wl_u rfl (ow_y (yh_lenS Tb rfl rfl rfl rfl) rfl rfl (kk_wl ?_))
        refine wl_u rfl (ow_y (yh_cmpI rfl rfl rfl rfl) rfl rfl (kk_wl ?_))
        refine wl_nil ?_
        refine ex_seq ?_
        refine cw_split rfl (fun c5 => ?_) (fun c5 => ?_)
        · skip
          replace h := bt c5 h
          have q5 := ltb_true.1 c5
          refine cw_skip ?_
          refine ex_seq ?_
          refine cw_seq ?_
          refine cw_block ?_
          refine cw_region ?_
          refine wl_u rfl (ow_y (yh_move rfl rfl) rfl rfl (kk_wl ?_))
          refine wl_u rfl (ow_y (yh_field Tb rfl rfl rfl) rfl rfl (kk_wl ?_))
          refine wl_u rfl (ow_y (yh_loadB Tb (k := 1) rfl rfl rfl rfl rfl) rfl rfl (kk_wl ?_))
          refine wl_u rfl (ow_y (yh_move rfl rfl) rfl rfl (kk_wl ?_))
          obtain ⟨y68, hy68, h⟩ := bd h
          obtain ⟨b68, o68, ha68⟩ := sl_addr hf17 hy68
          subst ha68
          have hc68 := get_str hf17 hy68
          refine wl_u rfl (ow_y (yh_idx Tb (k := s11) rfl rfl rfl rfl (get_lt hy68) rfl rfl) rfl rfl (kk_wl ?_))
          refine wl_u rfl (ow_y (yh_loadA0 Tb rfl rfl rfl hc68 rfl) rfl rfl (kk_wl ?_))
          obtain ⟨x70, hx70, h⟩ := bd h
          refine wl_u rfl (ow_cN1 rfl hb138 rfl (fun w hw => c_spec_l1Put N _ _ _ hx70 w (rdo (A := strsL) 4 rfl hw)) rfl rfl (fun a70 c70 F70 => kk_wl ?_))
          refine wl_u rfl (ow_y (yh_assign rfl rfl) rfl rfl (kk_wl ?_))
          refine wl_nil ?_
          refine ex_block_normal ?_
          refine ex_seq ?_
          refine cw_region ?_
          refine wl_u rfl (ow_y (yh_move rfl rfl) rfl rfl (kk_wl ?_))
          refine wl_u rfl (ow_y (yh_arI rfl rfl rfl rfl (by omega)) rfl rfl (kk_wl ?_))
          refine wl_u rfl (ow_y (yh_assign rfl rfl) rfl rfl (kk_wl ?_))
          refine wl_nil ?_
          exact ex_next [1, 2, 3, 4, 0] (hn23 (n23, x70, s11 + 1, a70, c70, F70) (Nat.lt_succ_self _) h) ⟨rfl, rfl, rfl, rfl, rfl, rfl, rfl, rfl, trivial⟩ (by kernel_rfl)
        · skip
          replace h := bf c5 h
          have q6 := ltb_false.1 c5
          refine cw_exit ?_
          refine ex_then_exit ?_
          refine ex_then_exit ?_
          obtain rfl := Option.some.inj h
          have h := go_brk hk23
          refine ex_block_exit ?_
          refine ex_seq ?_
          refine cw_region ?_
          refine wl_u rfl (ow_y (yh_move rfl rfl) rfl rfl (kk_wl ?_))
          refine wl_u rfl (ow_y (yh_field Tb rfl rfl rfl) rfl rfl (kk_wl ?_))
          refine wl_u rfl (ow_store1 Tb (k := 2) rfl rfl rfl rfl rfl rfl rfl rfl rfl (kk_wl ?_))
          refine wl_nil ?_
          refine ex_seq ?_
          refine cw_seq ?_
          refine cw_region ?_
          refine wl_u rfl (ow_y (yh_field Tb rfl rfl rfl) rfl rfl (kk_wl ?_))
          refine wl_u rfl (ow_y (yh_loadB Tb (k := 0) rfl rfl rfl rfl rfl) rfl rfl (kk_wl ?_))
          refine wl_u rfl (ow_y (yh_move rfl rfl) rfl rfl (kk_wl ?_))
          refine wl_u rfl (ow_y (yh_cmpS rfl rfl rfl rfl) rfl rfl (kk_wl ?_))
          refine wl_nil ?_
          refine ex_seq ?_
          refine cw_split rfl (fun c6 => ?_) (fun c6 => ?_)
          · skip
            replace h := bt c6 h
            refine cw_region ?_
            refine wl_u rfl (ow_y (yh_move rfl rfl) rfl rfl (kk_wl ?_))
            refine wl_u rfl (ow_y (yh_loadBA Tb (k := 0) rfl rfl rfl rfl rfl rfl) rfl rfl (kk_wl ?_))
            refine wl_u rfl (ow_litA Tb rfl rfl rfl rfl rfl rfl (by decide) rfl rfl (fun g79 => kk_wl ?_))
            obtain ⟨hll80, h⟩ := bd_appd h
            refine wl_u rfl (ow_chg (c' := owC stepL Fs9 [.string x29.name, .slice as9 s9.length cs9, .bool x29.undo] (Step.mk x29.name s9 x29.undo)) 5 rfl (fun w hA => stepL_mk (Step.mk x29.name s9 x29.undo) hA) rfl (ow_appE Tb (i := 3) (j := 0) (k := 1) rfl rfl rfl rfl rfl rfl rfl rfl rfl rfl rfl (app1 hll80) (by decide) rfl rfl (fun a80 c80 F80 => kk_wl ?_)))
            refine wl_u rfl (ow_y (yh_assign rfl rfl) rfl rfl (kk_wl ?_))
            refine wl_nil ?_
            refine ex_block_normal ?_
            refine ex_seq ?_
            refine cw_region ?_
            refine wl_u rfl (ow_y (yh_move rfl rfl) rfl rfl (kk_wl ?_))
            refine wl_u rfl (ow_y (yh_arI rfl rfl rfl rfl (by omega)) rfl rfl (kk_wl ?_))
            refine wl_u rfl (ow_y (yh_assign rfl rfl) rfl rfl (kk_wl ?_))
            refine wl_nil ?_
            exact ex_next [0, 3] (hn6 (n6, (s5 ++ [(Step.mk x29.name s9 x29.undo)]), s7 + 1, a80, c80, F80) (Nat.lt_succ_self _) h) ⟨rfl, rfl, rfl, rfl, rfl, trivial⟩ (by kernel_rfl)
          · skip
            replace h := bf c6 h
            refine cw_skip ?_
            refine ex_block_normal ?_
            refine ex_seq ?_
            refine cw_region ?_
            refine wl_u rfl (ow_y (yh_move rfl rfl) rfl rfl (kk_wl ?_))
            refine wl_u rfl (ow_y (yh_arI rfl rfl rfl rfl (by omega)) rfl rfl (kk_wl ?_))
            refine wl_u rfl (ow_y (yh_assign rfl rfl) rfl rfl (kk_wl ?_))
            refine wl_nil ?_
            exact ex_next [1, 2] (hn6 (n6, s5, s7 + 1, as5, cs5, Fs5) (Nat.lt_succ_self _) h) ⟨rfl, rfl, rfl, rfl, rfl, trivial⟩ (by kernel_rfl)
    · skip
      replace h := bf c2 h
      have q7 := leb_false.1 c2
      refine cw_skip ?_
      refine ex_seq ?_
      refine cw_seq ?_
      refine cw_region ?_
      refine wl_u rfl (ow_y (yh_field Tb rfl rfl rfl) rfl rfl (kk_wl ?_))
      refine wl_u rfl (ow_y (yh_loadB Tb (k := 0) rfl rfl rfl rfl rfl) rfl rfl (kk_wl ?_))
      refine wl_u rfl (ow_y (yh_move rfl rfl) rfl rfl (kk_wl ?_))
      refine wl_u rfl (ow_y (yh_cmpS rfl rfl rfl rfl) rfl rfl (kk_wl ?_))
      refine wl_nil ?_
      refine ex_seq ?_
      refine cw_split rfl (fun c7 => ?_) (fun c7 => ?_)
      · skip
        replace h := bt c7 h
        refine cw_region ?_
        refine wl_u rfl (ow_y (yh_move rfl rfl) rfl rfl (kk_wl ?_))
        refine wl_u rfl (ow_y (yh_loadBA Tb (k := 0) rfl rfl rfl rfl rfl rfl) rfl rfl (kk_wl ?_))
        refine wl_u rfl (ow_litA Tb rfl rfl rfl rfl rfl rfl (by decide) rfl rfl (fun g79 => kk_wl ?_))
        obtain ⟨hll80, h⟩ := bd_appd h
        refine wl_u rfl (ow_chg (c' := owC stepL F29 [.string x29.name, .slice a29 x29.after.length c29, .bool x29.undo] x29) 2 rfl (fun w hA => stepL_mk x29 hA) rfl (ow_appE Tb (i := 3) (j := 0) (k := 1) rfl rfl rfl rfl rfl rfl rfl rfl rfl rfl rfl (app1 hll80) (by decide) rfl rfl (fun a80 c80 F80 => kk_wl ?_)))
        refine wl_u rfl (ow_y (yh_assign rfl rfl) rfl rfl (kk_wl ?_))
        refine wl_nil ?_
        refine ex_block_normal ?_
        refine ex_seq ?_
        refine cw_region ?_
        refine wl_u rfl (ow_y (yh_move rfl rfl) rfl rfl (kk_wl ?_))
        refine wl_u rfl (ow_y (yh_arI rfl rfl rfl rfl (by omega)) rfl rfl (kk_wl ?_))
        refine wl_u rfl (ow_y (yh_assign rfl rfl) rfl rfl (kk_wl ?_))
        refine wl_nil ?_
        exact ex_next [0, 3] (hn6 (n6, (s5 ++ [x29]), s7 + 1, a80, c80, F80) (Nat.lt_succ_self _) h) ⟨rfl, rfl, rfl, rfl, rfl, trivial⟩ (by kernel_rfl)
      · skip
        replace h := bf c7 h
        refine cw_skip ?_
        refine ex_block_normal ?_
        refine ex_seq ?_
        refine cw_region ?_
        refine wl_u rfl (ow_y (yh_move rfl rfl) rfl rfl (kk_wl ?_))
        refine wl_u rfl (ow_y (yh_arI rfl rfl rfl rfl (by omega)) rfl rfl (kk_wl ?_))
        refine wl_u rfl (ow_y (yh_assign rfl rfl) rfl rfl (kk_wl ?_))
        refine wl_nil ?_
        exact ex_next [2, 3] (hn6 (n6, s5, s7 + 1, as5, cs5, Fs5) (Nat.lt_succ_self _) h) ⟨rfl, rfl, rfl, rfl, rfl, trivial⟩ (by kernel_rfl)
  · skip
    replace h := bf c1 h
    have q8 := ltb_false.1 c1
    refine cw_exit ?_
    refine ex_then_exit ?_
    refine ex_then_exit ?_
    obtain rfl := Option.some.inj h
    have h := go_brk hk6
    refine ex_block_exit ?_
    refine ex_seq ?_
    refine cw_seq ?_
    refine cw_region ?_
    refine wl_u rfl (ow_y (yh_move rfl rfl) rfl rfl (kk_wl ?_))
    refine wl_u rfl (ow_y (yh_assign rfl rfl) rfl rfl (kk_wl ?_))
    refine wl_nil ?_
    refine ex_seq ?_
    refine cw_ret ?_
    obtain rfl := Option.some.inj h
    exact ex_r1 Tb rfl (.tmp rfl) (fun wq hq => ⟨_, rfl, hq.ext, ⟨as5, cs5, Fs5, rfl, NewC.sel [0] hq rfl⟩⟩)

def m_spec_l12Steps (N : Nat) (u0 : List Step) (u1 : Change) : Option (List Step × Bool) := (m_spec_l2At N u0 u1.step.name).bind fun x11 => ((bif eqb u1.kind 1 then some (ltb x11 0)
 else some false) : Option (Bool)).bind fun j104 => (bif j104 then (m_spec_l12With N u0 u1.step).bind fun x23 => some (x23, true)
 else ((bif eqb u1.kind 2 then some (leb 0 x11)
 else some false) : Option (Bool)).bind fun j106 => (bif j106 then (m_spec_l12Without N u0 u1.step.name).bind fun x36 => some (x36, true)
 else ((bif eqb u1.kind 3 then some (leb 0 x11)
 else some false) : Option (Bool)).bind fun j108 => (bif j108 then (geti u0 x11).bind fun y54 => (m_spec_l12With N u0 (Step.mk u1.step.name u1.step.after y54.undo)).bind fun x58 => some (x58, true)
 else ((bif eqb u1.kind 4 then some (leb 0 x11)
 else some false) : Option (Bool)).bind fun j111 => (bif j111 then (geti u0 x11).bind fun y73 => (m_spec_l12With N u0 (Step.mk u1.step.name y73.after u1.step.undo)).bind fun x80 => some (x80, true)
 else some (([] : List Step), false)))))

set_option maxHeartbeats 4000000 in
theorem c_spec_l12Steps (N : Nat) (u0 : List Step) (u1 : Change) (res : List Step × Bool) (h : m_spec_l12Steps N u0 u1 = some res) (w : World) {a_u0 a_u1_step_after : Option Addr} {c_u0 c_u1_step_after : Nat} (h_u0 : stepsL.rd w [] [.slice a_u0 u0.length c_u0] u0) (h_u1_step_after : strsL.rd w [] [.slice a_u1_step_after u1.step.after.length c_u1_step_after] u1.step.after) : Ret Tryz.prog 91 [.slice a_u0 u0.length c_u0, .agg #[.int .i64 u1.kind, .string u1.step.name, .slice a_u1_step_after u1.step.after.length c_u1_step_after, .bool u1.step.undo]] w [] fun v w' => ∃ a1 c1 F1, v = .tuple #[.slice a1 res.1.length c1, .bool res.2] ∧ NewC w w' [owC stepsL F1 [.slice a1 res.1.length c1] res.1] := by
  have mh_u0 := rd_max h_u0
  have mh_u1_step_after := rd_max h_u1_step_after
  unfold m_spec_l12Steps at h
  refine ret_enter Tryz.func91 rfl Tryz.ntmps91 rfl (Hp.refl w _) ?_
  refine cw_seq ?_
  refine cw_region ?_
  refine wl_u rfl (ow_boxA rfl rfl rfl rfl (fun g3 => kk_wl ?_))
  refine wl_u rfl (ow_y (yh_assign rfl rfl) rfl rfl (kk_wl ?_))
  refine wl_u rfl (ow_y (yh_assign rfl rfl) rfl rfl (kk_wl ?_))
  refine wl_nil ?_
  refine ex_seq ?_
  refine cw_seq ?_
  refine cw_region ?_
  refine wl_u rfl (ow_y (yh_move rfl rfl) rfl rfl (kk_wl ?_))
  refine wl_u rfl (ow_y (yh_field Tb rfl rfl rfl) rfl rfl (kk_wl ?_))
  refine wl_u rfl (ow_y (yh_field Tb rfl rfl rfl) rfl rfl (kk_wl ?_))
  refine wl_u rfl (ow_y (yh_loadB Tb (k := 0) rfl rfl rfl rfl rfl) rfl rfl (kk_wl ?_))
  obtain ⟨x11, hx11, h⟩ := bd h
  refine wl_u rfl (ow_cV rfl hb84 rfl (fun w hw => c_spec_l2At N _ _ _ hx11 w (Lay.at_ h_u0 hw)) rfl rfl (kk_wl ?_))
  refine wl_u rfl (ow_y (yh_assign rfl rfl) rfl rfl (kk_wl ?_))
  refine wl_nil ?_
  refine ex_seq ?_
  refine cw_seq ?_
  refine cw_block ?_
  obtain ⟨j104, he104, hk104⟩ := bd h
  clear h
  refine cw_cut (σ := Unit) (fun s => True) (fun s => [(0, .slice a_u0 u0.length c_u0), (3, .pointer (some ⟨g3, 0, none⟩)), (6, .int .i64 x11), (12, .bool j104)]) (fun s => [blkC g3 51 [.int .i64 u1.kind, .string u1.step.name, .slice a_u1_step_after u1.step.after.length c_u1_step_after, .bool u1.step.undo]]) (fun s hI => ?_) (fun KL hn104 => ?_)
  · skip
    have h := hk104
    refine cw_split rfl (fun c1 => ?_) (fun c1 => ?_)
    · skip
      replace h := bt c1 h
      refine cw_seq ?_
      refine cw_region ?_
      refine wl_u rfl (ow_y (yh_move rfl rfl) rfl rfl (kk_wl ?_))
      refine wl_u rfl (ow_y (yh_field Tb rfl rfl rfl) rfl rfl (kk_wl ?_))
      refine wl_u rfl (ow_y (yh_loadBN Tb (k := 0) rfl rfl rfl rfl rfl rfl rfl) rfl rfl (kk_wl ?_))
      obtain ⟨x23, hx23, h⟩ := bd h
      refine wl_u rfl (ow_cN1 rfl hb116 rfl (fun w hw => c_spec_l12With N _ _ _ hx23 w (Lay.at_ h_u0 hw) (Lay.at_ h_u1_step_after hw)) rfl rfl (fun a23 c23 F23 => kk_wl ?_))
      refine wl_u rfl (ow_y (yh_assign rfl rfl) rfl rfl (kk_wl ?_))
      refine wl_u rfl (ow_y (yh_assign rfl rfl) rfl rfl (kk_wl ?_))
      refine wl_nil ?_
      refine ex_seq ?_
      refine cw_ret ?_
      refine ex_block_ret ?_
      refine ex_then_ret ?_
      obtain rfl := Option.some.inj h
      exact ex_r2 Tb rfl (.tmp rfl) (.tmp rfl) (fun wq hq => ⟨_, rfl, hq.ext, ⟨a23, c23, F23, rfl, NewC.sel [0] hq rfl⟩⟩)
    · skip
      replace h := bf c1 h
      obtain ⟨j106, he106, hk106⟩ := bd h
      clear h
      refine cw_cut (σ := Unit) (fun s => True) (fun s => [(0, .slice a_u0 u0.length c_u0), (3, .pointer (some ⟨g3, 0, none⟩)), (6, .int .i64 x11), (24, .bool j106)]) (fun s => [blkC g3 51 [.int .i64 u1.kind, .string u1.step.name, .slice a_u1_step_after u1.step.after.length c_u1_step_after, .bool u1.step.undo]]) (fun s hI => ?_) (fun KL hn106 => ?_)
      · skip
        have h := hk106
        refine cw_split rfl (fun c2 => ?_) (fun c2 => ?_)
        · skip
          replace h := bt c2 h
          refine cw_seq ?_
          refine cw_region ?_
          refine wl_u rfl (ow_y (yh_move rfl rfl) rfl rfl (kk_wl ?_))
          refine wl_u rfl (ow_y (yh_field Tb rfl rfl rfl) rfl rfl (kk_wl ?_))
          refine wl_u rfl (ow_y (yh_field Tb rfl rfl rfl) rfl rfl (kk_wl ?_))
          refine wl_u rfl (ow_y (yh_loadB Tb (k := 0) rfl rfl rfl rfl rfl) rfl rfl (kk_wl ?_))
          obtain ⟨x36, hx36, h⟩ := bd h
          refine wl_u rfl (ow_cN1 rfl hb117 rfl (fun w hw => c_spec_l12Without N _ _ _ hx36 w (Lay.at_ h_u0 hw)) rfl rfl (fun a36 c36 F36 => kk_wl ?_))
          refine wl_u rfl (ow_y (yh_assign rfl rfl) rfl rfl (kk_wl ?_))
          refine wl_u rfl (ow_y (yh_assign rfl rfl) rfl rfl (kk_wl ?_))
          refine wl_nil ?_
          refine ex_seq ?_
          refine cw_ret ?_
          refine ex_block_ret ?_
          refine ex_then_ret ?_
          obtain rfl := Option.some.inj h
          exact ex_r2 Tb rfl (.tmp rfl) (.tmp rfl) (fun wq hq => ⟨_, rfl, hq.ext, ⟨a36, c36, F36, rfl, NewC.sel [0] hq rfl⟩⟩)
        · skip
          replace h := bf c2 h
          obtain ⟨j108, he108, hk108⟩ := bd h
          clear h
          refine cw_cut (σ := Unit) (fun s => True) (fun s => [(0, .slice a_u0 u0.length c_u0), (3, .pointer (some ⟨g3, 0, none⟩)), (6, .int .i64 x11), (37, .bool j108)]) (fun s => [blkC g3 51 [.int .i64 u1.kind, .string u1.step.name, .slice a_u1_step_after u1.step.after.length c_u1_step_after, .bool u1.step.undo]]) (fun s hI => ?_) (fun KL hn108 => ?_)
          · skip
            have h := hk108
            refine cw_split rfl (fun c3 => ?_) (fun c3 => ?_)
            · skip
              replace h := bt c3 h
              refine cw_seq ?_
              refine cw_dr [0, 1, 2, 3, 4, 5, 6, 7, 8, 9, 10, 11, 12, 14, 15] [] [blkC g3 51 [.int .i64 u1.kind, .string u1.step.name, .slice a_u1_step_after u1.step.after.length c_u1_step_after, .bool u1.step.undo]] (by kernel_rfl) ?_
              refine wd_take (i := 0) [0] rfl rfl rfl rfl rfl (by kernel_rfl) (by kernel_rfl) (fun _ _ _ _ h => h) (yh_move rfl rfl) ?_
              refine wd_take (i := 1) [0] rfl rfl rfl rfl rfl (by kernel_rfl) (by kernel_rfl) (fun _ _ _ _ h => h) (yh_field Tb rfl rfl rfl) ?_
              refine wd_take (i := 2) [0] rfl rfl rfl rfl rfl (by kernel_rfl) (by kernel_rfl) (fun _ _ _ _ h => h) (yh_field Tb rfl rfl rfl) ?_
              refine wd_take (i := 3) [0] rfl rfl rfl rfl rfl (by kernel_rfl) (by kernel_rfl) (fun _ _ _ _ h => h) (yh_loadB Tb (k := 0) rfl rfl rfl rfl rfl) ?_
              refine wd_take (i := 4) [0] rfl rfl rfl rfl rfl (by kernel_rfl) (by kernel_rfl) (fun _ _ _ _ h => h) (yh_field Tb rfl rfl rfl) ?_
              refine wd_take (i := 5) [0] rfl rfl rfl rfl rfl (by kernel_rfl) (by kernel_rfl) (fun _ _ _ _ h => h) (yh_field Tb rfl rfl rfl) ?_
              refine wd_take (i := 6) [0] rfl rfl rfl rfl rfl (by kernel_rfl) (by kernel_rfl) (fun _ _ _ _ h => h) (yh_loadB Tb (k := 0) rfl rfl rfl rfl rfl) ?_
              refine wd_take (i := 7) [0] rfl rfl rfl rfl rfl (by kernel_rfl) (by kernel_rfl) (fun _ _ _ _ h => h) (yh_move rfl rfl) ?_
              refine wd_take (i := 8) [0] rfl rfl rfl rfl rfl (by kernel_rfl) (by kernel_rfl) (fun _ _ _ _ h => h) (yh_move rfl rfl) ?_
              obtain ⟨y54, zy54, h⟩ := bd h
              obtain ⟨iy54, hy54⟩ := geti_some zy54
              obtain ⟨b54, o54, ha54⟩ := sl_addr h_u0 hy54
              subst ha54
              obtain ⟨a54, e54, hc54, hf54⟩ := get_step h_u0 hy54
              have mx54 := rd_max hf54
              refine wd_take (i := 9) [0] rfl rfl rfl rfl rfl (by kernel_rfl) (by kernel_rfl) (fun _ _ _ _ h => h) (yh_idx Tb (k := x11.toNat) rfl rfl rfl iy54 (get_lt hy54) rfl rfl) ?_
              refine wd_take (i := 10) [0] rfl rfl rfl rfl rfl (by kernel_rfl) (by kernel_rfl) (fun _ _ _ _ h => h) (yh_field Tb rfl rfl rfl) ?_
              refine wd_take (i := 11) [0] rfl rfl rfl rfl rfl (by kernel_rfl) (by kernel_rfl) (fun _ _ _ _ h => h) (yh_loadAF Tb (j := 2) rfl rfl rfl hc54 rfl) ?_
              refine wd_take (i := 12) [0] rfl rfl rfl rfl rfl (by kernel_rfl) (by kernel_rfl) (fun _ _ _ _ h => h) (yh_buildA rfl rfl (by kernel_rfl)) ?_
              obtain ⟨x58, hx58, h⟩ := bd h
              refine wd_one 13 rfl rfl (by kernel_rfl) (ow_cN1 rfl hb116 rfl (fun w hw => c_spec_l12With N _ _ _ hx58 w (Lay.at_ h_u0 hw) (Lay.at_ h_u1_step_after hw)) rfl rfl (fun a58 c58 F58 => kk_wd [1] (by kernel_rfl) ?_))
              refine wd_take (i := 14) [1] rfl rfl rfl rfl rfl (by kernel_rfl) (by kernel_rfl) (fun _ _ _ _ h => h) (yh_assign rfl rfl) ?_
              refine wd_take (i := 15) [1] rfl rfl rfl rfl rfl (by kernel_rfl) (by kernel_rfl) (fun _ _ _ _ h => h) (yh_assign rfl rfl) ?_
              refine wd_done (by kernel_rfl) ?_
              refine ex_seq ?_
              refine cw_ret ?_
              refine ex_block_ret ?_
              refine ex_then_ret ?_
              obtain rfl := Option.some.inj h
              exact ex_r2 Tb rfl (.tmp rfl) (.tmp rfl) (fun wq hq => ⟨_, rfl, hq.ext, ⟨a58, c58, F58, rfl, NewC.sel [0] hq rfl⟩⟩)
            · skip
              replace h := bf c3 h
              obtain ⟨j111, he111, hk111⟩ := bd h
              clear h
              refine cw_cut (σ := Unit) (fun s => True) (fun s => [(0, .slice a_u0 u0.length c_u0), (3, .pointer (some ⟨g3, 0, none⟩)), (6, .int .i64 x11), (59, .bool j111)]) (fun s => [blkC g3 51 [.int .i64 u1.kind, .string u1.step.name, .slice a_u1_step_after u1.step.after.length c_u1_step_after, .bool u1.step.undo]]) (fun s hI => ?_) (fun KL hn111 => ?_)
              · skip
                have h := hk111
                refine cw_split rfl (fun c4 => ?_) (fun c4 => ?_)
                · skip
                  replace h := bt c4 h
                  refine cw_seq ?_
                  refine cw_dr [0, 1, 2, 3, 4, 5, 6, 7, 8, 9, 10, 11, 12, 14, 15] [] [blkC g3 51 [.int .i64 u1.kind, .string u1.step.name, .slice a_u1_step_after u1.step.after.length c_u1_step_after, .bool u1.step.undo]] (by kernel_rfl) ?_
                  refine wd_take (i := 0) [0] rfl rfl rfl rfl rfl (by kernel_rfl) (by kernel_rfl) (fun _ _ _ _ h => h) (yh_move rfl rfl) ?_
                  refine wd_take (i := 1) [0] rfl rfl rfl rfl rfl (by kernel_rfl) (by kernel_rfl) (fun _ _ _ _ h => h) (yh_field Tb rfl rfl rfl) ?_
                  refine wd_take (i := 2) [0] rfl rfl rfl rfl rfl (by kernel_rfl) (by kernel_rfl) (fun _ _ _ _ h => h) (yh_field Tb rfl rfl rfl) ?_
                  refine wd_take (i := 3) [0] rfl rfl rfl rfl rfl (by kernel_rfl) (by kernel_rfl) (fun _ _ _ _ h => h) (yh_loadB Tb (k := 0) rfl rfl rfl rfl rfl) ?_
                  refine wd_take (i := 4) [0] rfl rfl rfl rfl rfl (by kernel_rfl) (by kernel_rfl) (fun _ _ _ _ h => h) (yh_move rfl rfl) ?_
                  refine wd_take (i := 5) [0] rfl rfl rfl rfl rfl (by kernel_rfl) (by kernel_rfl) (fun _ _ _ _ h => h) (yh_move rfl rfl) ?_
                  obtain ⟨y73, zy73, h⟩ := bd h
                  obtain ⟨iy73, hy73⟩ := geti_some zy73
                  obtain ⟨b73, o73, ha73⟩ := sl_addr h_u0 hy73
                  subst ha73
                  obtain ⟨a73, e73, hc73, hf73⟩ := get_step h_u0 hy73
                  have mx73 := rd_max hf73
                  refine wd_take (i := 6) [0] rfl rfl rfl rfl rfl (by kernel_rfl) (by kernel_rfl) (fun _ _ _ _ h => h) (yh_idx Tb (k := x11.toNat) rfl rfl rfl iy73 (get_lt hy73) rfl rfl) ?_
                  refine wd_take (i := 7) [0] rfl rfl rfl rfl rfl (by kernel_rfl) (by kernel_rfl) (fun _ _ _ _ h => h) (yh_field Tb rfl rfl rfl) ?_
                  refine wd_take (i := 8) [0] rfl rfl rfl rfl rfl (by kernel_rfl) (by kernel_rfl) (fun _ _ _ _ h => h) (yh_loadAF Tb (j := 1) rfl rfl rfl hc73 rfl) ?_
                  refine wd_take (i := 9) [0] rfl rfl rfl rfl rfl (by kernel_rfl) (by kernel_rfl) (fun _ _ _ _ h => h) (yh_field Tb rfl rfl rfl) ?_
                  refine wd_take (i := 10) [0] rfl rfl rfl rfl rfl (by kernel_rfl) (by kernel_rfl) (fun _ _ _ _ h => h) (yh_field Tb rfl rfl rfl) ?_
                  refine wd_take (i := 11) [0] rfl rfl rfl rfl rfl (by kernel_rfl) (by kernel_rfl) (fun _ _ _ _ h => h) (yh_loadB Tb (k := 0) rfl rfl rfl rfl rfl) ?_
                  refine wd_take (i := 12) [0] rfl rfl rfl rfl rfl (by kernel_rfl) (by kernel_rfl) (fun _ _ _ _ h => h) (yh_buildA rfl rfl (by kernel_rfl)) ?_
                  obtain ⟨x80, hx80, h⟩ := bd h
                  refine wd_one 13 rfl rfl (by kernel_rfl) (ow_cN1 rfl hb116 rfl (fun w hw => c_spec_l12With N _ _ _ hx80 w (Lay.at_ h_u0 hw) (Lay.at_ hf73 hw)) rfl rfl (fun a80 c80 F80 => kk_wd [1] (by kernel_rfl) ?_))
                  refine wd_take (i := 14) [1] rfl rfl rfl rfl rfl (by kernel_rfl) (by kernel_rfl) (fun _ _ _ _ h => h) (yh_assign rfl rfl) ?_
                  refine wd_take (i := 15) [1] rfl rfl rfl rfl rfl (by kernel_rfl) (by kernel_rfl) (fun _ _ _ _ h => h) (yh_assign rfl rfl) ?_
                  refine wd_done (by kernel_rfl) ?_
                  refine ex_seq ?_
                  refine cw_ret ?_
                  refine ex_block_ret ?_
                  refine ex_then_ret ?_
                  obtain rfl := Option.some.inj h
                  exact ex_r2 Tb rfl (.tmp rfl) (.tmp rfl) (fun wq hq => ⟨_, rfl, hq.ext, ⟨a80, c80, F80, rfl, NewC.sel [0] hq rfl⟩⟩)
                · skip
                  replace h := bf c4 h
                  refine cw_skip ?_
                  refine ex_block_normal ?_
                  refine ex_seq ?_
                  refine cw_seq ?_
                  refine cw_region ?_
                  refine wl_u rfl (ow_lit0 Tb rfl rfl rfl rfl rfl rfl (fun g81 => kk_chg (c' := owC stepsL [g81] [.slice (some ⟨g81, 0, none⟩) 0 0] ([] : List Step)) 0 rfl (fun w hA => own_stepsL ([] : List Step) hA rfl (by simp [maxLen])) rfl (kk_wl ?_)))
                  refine wl_u rfl (ow_y (yh_assign rfl rfl) rfl rfl (kk_wl ?_))
                  refine wl_u rfl (ow_y (yh_assign rfl rfl) rfl rfl (kk_wl ?_))
                  refine wl_nil ?_
                  refine ex_seq ?_
                  refine cw_ret ?_
                  obtain rfl := Option.some.inj h
                  exact ex_r2 Tb rfl (.tmp rfl) (.tmp rfl) (fun wq hq => ⟨_, rfl, hq.ext, ⟨(some ⟨g81, 0, none⟩), 0, [g81], rfl, NewC.sel [0] hq rfl⟩⟩)
              · skip
                have h := he111
                refine cw_region ?_
                refine wl_u rfl (ow_y (yh_field Tb rfl rfl rfl) rfl rfl (kk_wl ?_))
                refine wl_u rfl (ow_y (yh_loadB Tb (k := 0) rfl rfl rfl rfl rfl) rfl rfl (kk_wl ?_))
                refine wl_u rfl (ow_y (yh_cmpI rfl rfl rfl rfl) rfl rfl (kk_wl ?_))
                refine wl_u rfl (ow_y (yh_move rfl rfl) rfl rfl (kk_wl ?_))
                refine wl_s rfl rfl (fun c5 => ?_) (fun c5 => ?_)
                · skip
                  replace h := bt c5 h
                  have q1 := eqb_true.1 c5
                  refine wl_g rfl rfl (ow_y (yh_move rfl rfl) rfl rfl (kk_wl ?_))
                  refine wl_g rfl rfl (ow_y (yh_cmpI rfl rfl rfl rfl) rfl rfl (kk_wl ?_))
                  refine wl_u rfl (ow_y (yh_pickT rfl rfl rfl) rfl rfl (kk_wl ?_))
                  refine wl_u rfl (ow_y (yh_assign rfl rfl) rfl rfl (kk_wl ?_))
                  refine wl_nil ?_
                  obtain rfl := Option.some.inj h
                  exact ex_next [0] (hn111 () trivial) ⟨rfl, rfl, rfl, rfl, trivial⟩ (by kernel_rfl)
                · skip
                  replace h := bf c5 h
                  have q2 := eqb_false.1 c5
                  refine wl_n rfl rfl rfl rfl ?_
                  refine wl_n rfl rfl rfl rfl ?_
                  refine wl_u rfl (ow_y (yh_pickF rfl rfl rfl) rfl rfl (kk_wl ?_))
                  refine wl_u rfl (ow_y (yh_assign rfl rfl) rfl rfl (kk_wl ?_))
                  refine wl_nil ?_
                  obtain rfl := Option.some.inj h
                  exact ex_next [0] (hn111 () trivial) ⟨rfl, rfl, rfl, rfl, trivial⟩ (by kernel_rfl)
          · skip
            have h := he108
            refine cw_region ?_
            refine wl_u rfl (ow_y (yh_field Tb rfl rfl rfl) rfl rfl (kk_wl ?_))
            refine wl_u rfl (ow_y (yh_loadB Tb (k := 0) rfl rfl rfl rfl rfl) rfl rfl (kk_wl ?_))
            refine wl_u rfl (ow_y (yh_cmpI rfl rfl rfl rfl) rfl rfl (kk_wl ?_))
            refine wl_u rfl (ow_y (yh_move rfl rfl) rfl rfl (kk_wl ?_))
            refine wl_s rfl rfl (fun c6 => ?_) (fun c6 => ?_)
            · skip
              replace h := bt c6 h
              have q3 := eqb_true.1 c6
              refine wl_g rfl rfl (ow_y (yh_move rfl rfl) rfl rfl (kk_wl ?_))
              refine wl_g rfl rfl (ow_y (yh_cmpI rfl rfl rfl rfl) rfl rfl (kk_wl ?_))
              refine wl_u rfl (ow_y (yh_pickT rfl rfl rfl) rfl rfl (kk_wl ?_))
              refine wl_u rfl (ow_y (yh_assign rfl rfl) rfl rfl (kk_wl ?_))
              refine wl_nil ?_
              obtain rfl := Option.some.inj h
              exact ex_next [0] (hn108 () trivial) ⟨rfl, rfl, rfl, rfl, trivial⟩ (by kernel_rfl)
            · skip
              replace h := bf c6 h
              have q4 := eqb_false.1 c6
              refine wl_n rfl rfl rfl rfl ?_
              refine wl_n rfl rfl rfl rfl ?_
              refine wl_u rfl (ow_y (yh_pickF rfl rfl rfl) rfl rfl (kk_wl ?_))
              refine wl_u rfl (ow_y (yh_assign rfl rfl) rfl rfl (kk_wl ?_))
              refine wl_nil ?_
              obtain rfl := Option.some.inj h
              exact ex_next [0] (hn108 () trivial) ⟨rfl, rfl, rfl, rfl, trivial⟩ (by kernel_rfl)
      · skip
        have h := he106
        refine cw_region ?_
        refine wl_u rfl (ow_y (yh_field Tb rfl rfl rfl) rfl rfl (kk_wl ?_))
        refine wl_u rfl (ow_y (yh_loadB Tb (k := 0) rfl rfl rfl rfl rfl) rfl rfl (kk_wl ?_))
        refine wl_u rfl (ow_y (yh_cmpI rfl rfl rfl rfl) rfl rfl (kk_wl ?_))
        refine wl_u rfl (ow_y (yh_move rfl rfl) rfl rfl (kk_wl ?_))
        refine wl_s rfl rfl (fun c7 => ?_) (fun c7 => ?_)
        · skip
          replace h := bt c7 h
          have q5 := eqb_true.1 c7
          refine wl_g rfl rfl (ow_y (yh_move rfl rfl) rfl rfl (kk_wl ?_))
          refine wl_g rfl rfl (ow_y (yh_cmpI rfl rfl rfl rfl) rfl rfl (kk_wl ?_))
          refine wl_u rfl (ow_y (yh_pickT rfl rfl rfl) rfl rfl (kk_wl ?_))
          refine wl_u rfl (ow_y (yh_assign rfl rfl) rfl rfl (kk_wl ?_))
          refine wl_nil ?_
          obtain rfl := Option.some.inj h
          exact ex_next [0] (hn106 () trivial) ⟨rfl, rfl, rfl, rfl, trivial⟩ (by kernel_rfl)
        · skip
          replace h := bf c7 h
          have q6 := eqb_false.1 c7
          refine wl_n rfl rfl rfl rfl ?_
          refine wl_n rfl rfl rfl rfl ?_
          refine wl_u rfl (ow_y (yh_pickF rfl rfl rfl) rfl rfl (kk_wl ?_))
          refine wl_u rfl (ow_y (yh_assign rfl rfl) rfl rfl (kk_wl ?_))
          refine wl_nil ?_
          obtain rfl := Option.some.inj h
          exact ex_next [0] (hn106 () trivial) ⟨rfl, rfl, rfl, rfl, trivial⟩ (by kernel_rfl)
  · skip
    have h := he104
    refine cw_region ?_
    refine wl_u rfl (ow_y (yh_field Tb rfl rfl rfl) rfl rfl (kk_wl ?_))
    refine wl_u rfl (ow_y (yh_loadB Tb (k := 0) rfl rfl rfl rfl rfl) rfl rfl (kk_wl ?_))
    refine wl_u rfl (ow_y (yh_cmpI rfl rfl rfl rfl) rfl rfl (kk_wl ?_))
    refine wl_u rfl (ow_y (yh_move rfl rfl) rfl rfl (kk_wl ?_))
    refine wl_s rfl rfl (fun c8 => ?_) (fun c8 => ?_)
    · skip
      replace h := bt c8 h
      have q7 := eqb_true.1 c8
      refine wl_g rfl rfl (ow_y (yh_move rfl rfl) rfl rfl (kk_wl ?_))
      refine wl_g rfl rfl (ow_y (yh_cmpI rfl rfl rfl rfl) rfl rfl (kk_wl ?_))
      refine wl_u rfl (ow_y (yh_pickT rfl rfl rfl) rfl rfl (kk_wl ?_))
      refine wl_u rfl (ow_y (yh_assign rfl rfl) rfl rfl (kk_wl ?_))
      refine wl_nil ?_
      obtain rfl := Option.some.inj h
      exact ex_next [0] (hn104 () trivial) ⟨rfl, rfl, rfl, rfl, trivial⟩ (by kernel_rfl)
    · skip
      replace h := bf c8 h
      have q8 := eqb_false.1 c8
      refine wl_n rfl rfl rfl rfl ?_
      refine wl_n rfl rfl rfl rfl ?_
      refine wl_u rfl (ow_y (yh_pickF rfl rfl rfl) rfl rfl (kk_wl ?_))
      refine wl_u rfl (ow_y (yh_assign rfl rfl) rfl rfl (kk_wl ?_))
      refine wl_nil ?_
      obtain rfl := Option.some.inj h
      exact ex_next [0] (hn104 () trivial) ⟨rfl, rfl, rfl, rfl, trivial⟩ (by kernel_rfl)

def m_spec_FlowChange (N : Nat) (f : Flow) (c : Change) : Option (Flow × Bool) := (m_spec_FlowValid N f).bind fun x10 => (bif !x10 then some ((Flow.mk 0 []), false)
 else (m_spec_StepValid N c.step).bind fun x15 => (bif !x15 then some ((Flow.mk 0 []), false)
 else (m_spec_l12Steps N f.steps c).bind fun x23 => (bif !x23.2 then some ((Flow.mk 0 []), false)
 else (m_spec_FlowValid N (Flow.mk (w64 (f.ver + 1)) x23.1)).bind fun x35 => (bif !x35 then some ((Flow.mk 0 []), false)
 else some ((Flow.mk (w64 (f.ver + 1)) x23.1), true)))))

set_option maxHeartbeats 4000000 in
theorem c_spec_FlowChange (N : Nat) (f : Flow) (c : Change) (res : Flow × Bool) (h : m_spec_FlowChange N f c = some res) (w : World) {a_c_step_after a_f_steps : Option Addr} {c_c_step_after c_f_steps : Nat} (h_f_steps : stepsL.rd w [] [.slice a_f_steps f.steps.length c_f_steps] f.steps) (h_c_step_after : strsL.rd w [] [.slice a_c_step_after c.step.after.length c_c_step_after] c.step.after) : Ret Tryz.prog 54 [.agg #[.int .i64 f.ver, .slice a_f_steps f.steps.length c_f_steps], .agg #[.int .i64 c.kind, .string c.step.name, .slice a_c_step_after c.step.after.length c_c_step_after, .bool c.step.undo]] w [] fun v w' => ∃ a1 c1 F1, v = .tuple #[.agg #[.int .i64 res.1.ver, .slice a1 res.1.steps.length c1], .bool res.2] ∧ NewC w w' [owC stepsL F1 [.slice a1 res.1.steps.length c1] res.1.steps] := by
  have mh_f_steps := rd_max h_f_steps
  have mh_c_step_after := rd_max h_c_step_after
  unfold m_spec_FlowChange at h
  refine ret_enter Tryz.func54 rfl Tryz.ntmps54 rfl (Hp.refl w _) ?_
  refine cw_seq ?_
  refine cw_region ?_
  refine wl_u rfl (ow_boxA rfl rfl rfl rfl (fun g2 => kk_wl ?_))
  refine wl_u rfl (ow_boxA rfl rfl rfl rfl (fun g3 => kk_wl ?_))
  refine wl_u rfl (ow_allocA Tb rfl rfl rfl rfl (fun g4 => kk_wl ?_))
  refine wl_u rfl (ow_y (yh_assign rfl rfl) rfl rfl (kk_wl ?_))
  refine wl_nil ?_
  refine ex_seq ?_
  refine cw_seq ?_
  refine cw_seq ?_
  refine cw_region ?_
  refine wl_u rfl (ow_y (yh_loadBA Tb (k := 2) rfl rfl rfl rfl rfl rfl) rfl rfl (kk_wl ?_))
  obtain ⟨x10, hx10, h⟩ := bd h
  refine wl_u rfl (ow_cV rfl hb42 rfl (fun w hw => c_spec_FlowValid N _ _ hx10 w (Lay.at_ h_f_steps hw)) rfl rfl (kk_wl ?_))
  refine wl_u rfl (ow_y (yh_not rfl rfl) rfl rfl (kk_wl ?_))
  refine wl_u rfl (ow_y (yh_move rfl rfl) rfl rfl (kk_wl ?_))
  refine wl_s rfl rfl (fun c1 => ?_) (fun c1 => ?_)
  · skip
    replace h := bt c1 h
    refine wl_n rfl rfl rfl rfl ?_
    refine wl_n rfl rfl rfl rfl ?_
    refine wl_n rfl rfl rfl rfl ?_
    refine wl_n rfl rfl rfl rfl ?_
    refine wl_u rfl (ow_y (yh_pickT rfl rfl rfl) rfl rfl (kk_wl ?_))
    refine wl_nil ?_
    refine ex_seq ?_
    refine cw_true rfl ?_
    refine cw_seq ?_
    refine cw_region ?_
    refine wl_u rfl (ow_y (yh_build [.int .i64 0, .slice none 0 0] rfl rfl (by kernel_rfl)) rfl rfl (kk_wl ?_))
    refine wl_u rfl (ow_storeA Tb (k := 0) rfl rfl rfl rfl rfl rfl rfl rfl rfl (kk_wl ?_))
    refine wl_u rfl (ow_y (yh_assign rfl rfl) rfl rfl (kk_wl ?_))
    refine wl_nil ?_
    refine ex_seq ?_
    refine cw_ret ?_
    refine ex_then_ret ?_
    refine ex_nilS stepsL rfl ?_
    obtain rfl := Option.some.inj h
    exact ex_r2 Tb rfl (.cellA 1 rfl rfl rfl rfl rfl) (.tmp rfl) (fun wq hq => ⟨_, rfl, hq.ext, ⟨none, 0, [], rfl, NewC.sel [0] hq rfl⟩⟩)
  · skip
    replace h := bf c1 h
    refine wl_g rfl rfl (ow_y (yh_field Tb rfl rfl rfl) rfl rfl (kk_wl ?_))
    refine wl_g rfl rfl (ow_y (yh_loadBN Tb (k := 1) rfl rfl rfl rfl rfl rfl rfl) rfl rfl (kk_wl ?_))
    obtain ⟨x15, hx15, h⟩ := bd h
    refine wl_g rfl rfl (ow_cV rfl hb83 rfl (fun w hw => c_spec_StepValid N _ _ hx15 w (Lay.at_ h_c_step_after hw)) rfl rfl (kk_wl ?_))
    refine wl_g rfl rfl (ow_y (yh_not rfl rfl) rfl rfl (kk_wl ?_))
    refine wl_u rfl (ow_y (yh_pickF rfl rfl rfl) rfl rfl (kk_wl ?_))
    refine wl_nil ?_
    refine ex_seq ?_
    refine cw_split rfl (fun c2 => ?_) (fun c2 => ?_)
    · skip
      replace h := bt c2 h
      refine cw_seq ?_
      refine cw_region ?_
      refine wl_u rfl (ow_y (yh_build [.int .i64 0, .slice none 0 0] rfl rfl (by kernel_rfl)) rfl rfl (kk_wl ?_))
      refine wl_u rfl (ow_storeA Tb (k := 0) rfl rfl rfl rfl rfl rfl rfl rfl rfl (kk_wl ?_))
      refine wl_u rfl (ow_y (yh_assign rfl rfl) rfl rfl (kk_wl ?_))
      refine wl_nil ?_
      refine ex_seq ?_
      refine cw_ret ?_
      refine ex_then_ret ?_
      refine ex_nilS stepsL rfl ?_
      obtain rfl := Option.some.inj h
      exact ex_r2 Tb rfl (.cellA 1 rfl rfl rfl rfl rfl) (.tmp rfl) (fun wq hq => ⟨_, rfl, hq.ext, ⟨none, 0, [], rfl, NewC.sel [0] hq rfl⟩⟩)
    · skip
      replace h := bf c2 h
      refine cw_skip ?_
      refine ex_seq ?_
      refine cw_seq ?_
      refine cw_region ?_
      refine wl_u rfl (ow_y (yh_field Tb rfl rfl rfl) rfl rfl (kk_wl ?_))
      refine wl_u rfl (ow_y (yh_loadB Tb (k := 2) rfl rfl rfl rfl rfl) rfl rfl (kk_wl ?_))
      refine wl_u rfl (ow_y (yh_loadBA Tb (k := 1) rfl rfl rfl rfl rfl rfl) rfl rfl (kk_wl ?_))
      obtain ⟨x23, hx23, h⟩ := bd h
      refine wl_u rfl (ow_cN1 rfl hb91 rfl (fun w hw => c_spec_l12Steps N _ _ _ hx23 w (Lay.at_ h_f_steps hw) (Lay.at_ h_c_step_after hw)) rfl rfl (fun a23 c23 F23 => kk_wl ?_))
      refine wl_u rfl (ow_y (yh_move rfl rfl) rfl rfl (kk_wl ?_))
      refine wl_u rfl (ow_y (yh_extract rfl rfl rfl) rfl rfl (kk_wl ?_))
      refine wl_u rfl (ow_y (yh_extract rfl rfl rfl) rfl rfl (kk_wl ?_))
      refine wl_u rfl (ow_y (yh_assign rfl rfl) rfl rfl (kk_wl ?_))
      refine wl_u rfl (ow_y (yh_assign rfl rfl) rfl rfl (kk_wl ?_))
      refine wl_nil ?_
      refine ex_seq ?_
      refine cw_seq ?_
      refine cw_region ?_
      refine wl_u rfl (ow_y (yh_field Tb rfl rfl rfl) rfl rfl (kk_wl ?_))
      refine wl_u rfl (ow_y (yh_loadB Tb (k := 3) rfl rfl rfl rfl rfl) rfl rfl (kk_wl ?_))
      refine wl_u rfl (ow_y (yh_arW rfl rfl rfl rfl) rfl rfl (kk_wl ?_))
      refine wl_u rfl (ow_y (yh_move rfl rfl) rfl rfl (kk_wl ?_))
      refine wl_u rfl (ow_y (yh_buildA rfl rfl (by kernel_rfl)) rfl rfl (kk_wl ?_))
      refine wl_u rfl (ow_allocA Tb rfl rfl rfl rfl (fun g8 => kk_wl ?_))
      refine wl_u rfl (ow_storeA Tb (k := 0) rfl rfl rfl rfl rfl rfl rfl rfl rfl (kk_wl ?_))
      refine wl_nil ?_
      refine ex_seq ?_
      refine cw_seq ?_
      refine cw_seq ?_
      refine cw_region ?_
      refine wl_u rfl (ow_y (yh_move rfl rfl) rfl rfl (kk_wl ?_))
      refine wl_u rfl (ow_y (yh_not rfl rfl) rfl rfl (kk_wl ?_))
      refine wl_u rfl (ow_y (yh_move rfl rfl) rfl rfl (kk_wl ?_))
      refine wl_s rfl rfl (fun c3 => ?_) (fun c3 => ?_)
      · skip
        replace h := bt c3 h
        refine wl_n rfl rfl rfl rfl ?_
        refine wl_n rfl rfl rfl rfl ?_
        refine wl_n rfl rfl rfl rfl ?_
        refine wl_u rfl (ow_y (yh_pickT rfl rfl rfl) rfl rfl (kk_wl ?_))
        refine wl_nil ?_
        refine ex_seq ?_
        refine cw_true rfl ?_
        refine cw_seq ?_
        refine cw_region ?_
        refine wl_u rfl (ow_y (yh_build [.int .i64 0, .slice none 0 0] rfl rfl (by kernel_rfl)) rfl rfl (kk_wl ?_))
        refine wl_u rfl (ow_storeA Tb (k := 2) rfl rfl rfl rfl rfl rfl rfl rfl rfl (kk_wl ?_))
        refine wl_u rfl (ow_y (yh_assign rfl rfl) rfl rfl (kk_wl ?_))
        refine wl_nil ?_
        refine ex_seq ?_
        refine cw_ret ?_
        refine ex_then_ret ?_
        refine ex_nilS stepsL rfl ?_
        obtain rfl := Option.some.inj h
        exact ex_r2 Tb rfl (.cellA 1 rfl rfl rfl rfl rfl) (.tmp rfl) (fun wq hq => ⟨_, rfl, hq.ext, ⟨none, 0, [], rfl, NewC.sel [0] hq rfl⟩⟩)
      · skip
        replace h := bf c3 h
        refine wl_g rfl rfl (ow_y (yh_loadBA Tb (k := 0) rfl rfl rfl rfl rfl rfl) rfl rfl (kk_wl ?_))
        obtain ⟨x35, hx35, h⟩ := bd h
        refine wl_g rfl rfl (ow_cV rfl hb42 rfl (fun w hw => c_spec_FlowValid N _ _ hx35 w (rdo (A := stepsL) 1 rfl hw)) rfl rfl (kk_wl ?_))
        refine wl_g rfl rfl (ow_y (yh_not rfl rfl) rfl rfl (kk_wl ?_))
        refine wl_u rfl (ow_y (yh_pickF rfl rfl rfl) rfl rfl (kk_wl ?_))
        refine wl_nil ?_
        refine ex_seq ?_
        refine cw_split rfl (fun c4 => ?_) (fun c4 => ?_)
        · skip
          replace h := bt c4 h
          refine cw_seq ?_
          refine cw_region ?_
          refine wl_u rfl (ow_y (yh_build [.int .i64 0, .slice none 0 0] rfl rfl (by kernel_rfl)) rfl rfl (kk_wl ?_))
          refine wl_u rfl (ow_storeA Tb (k := 2) rfl rfl rfl rfl rfl rfl rfl rfl rfl (kk_wl ?_))
          refine wl_u rfl (ow_y (yh_assign rfl rfl) rfl rfl (kk_wl ?_))
          refine wl_nil ?_
          refine ex_seq ?_
          refine cw_ret ?_
          refine ex_then_ret ?_
          refine ex_nilS stepsL rfl ?_
          obtain rfl := Option.some.inj h
          exact ex_r2 Tb rfl (.cellA 1 rfl rfl rfl rfl rfl) (.tmp rfl) (fun wq hq => ⟨_, rfl, hq.ext, ⟨none, 0, [], rfl, NewC.sel [0] hq rfl⟩⟩)
        · skip
          replace h := bf c4 h
          refine cw_skip ?_
          refine ex_seq ?_
          refine cw_seq ?_
          refine cw_region ?_
          refine wl_u rfl (ow_y (yh_loadBA Tb (k := 0) rfl rfl rfl rfl rfl rfl) rfl rfl (kk_wl ?_))
          refine wl_u rfl (ow_storeA Tb (k := 2) rfl rfl rfl rfl rfl rfl rfl rfl rfl (kk_wl ?_))
          refine wl_u rfl (ow_y (yh_assign rfl rfl) rfl rfl (kk_wl ?_))
          refine wl_nil ?_
          refine ex_seq ?_
          refine cw_ret ?_
          obtain rfl := Option.some.inj h
          exact ex_r2 Tb rfl (.cellA 0 rfl rfl rfl rfl rfl) (.tmp rfl) (fun wq hq => ⟨_, rfl, hq.ext, ⟨a23, c23, F23, rfl, NewC.sel [2] hq rfl⟩⟩)

def m_spec_l92Other_L11 (N : Nat) (cd : List UInt8) (x23 : (Int) × Nat) : Nat → Nat → Int → (List Step) → Nat → Option (Ex (Nat × Int × List Step × Nat) ((Flow) × Nat))
  | 0, _, _, _, _ => none
  | n + 1, s0_c_1, s5_c_0, s5_c_1, s7 => (bif ltb ((s7 : Nat) : Int) x23.1 then (m_spec_l92Change N cd s0_c_1 (Flow.mk s5_c_0 s5_c_1)).bind fun x33 => (m_spec_FlowChange N (Flow.mk s5_c_0 s5_c_1) x33.1).bind fun x34 => (bif x34.2 then m_spec_l92Other_L11 N cd x23 n x33.2 x34.1.ver x34.1.steps (s7 + 1)
 else m_spec_l92Other_L11 N cd x23 n x33.2 s5_c_0 s5_c_1 (s7 + 1))
 else some (Ex.brk (s0_c_1, s5_c_0, s5_c_1, s7)))

def m_spec_l92Other (N : Nat) (cd : List UInt8) (p : Nat) (f : Flow) : Option ((Flow) × Nat) := (m_spec_l6Rd_pick N cd p 3).bind fun x11 => (bif eqb x11.1 0 then (m_spec_l91Flow N cd x11.2).bind fun x19 => some (x19.1, x19.2)
 else (m_spec_FlowValid N f).bind fun x15 => (bif !x15 then (m_spec_l91Flow N cd x11.2).bind fun x19 => some (x19.1, x19.2)
 else (m_spec_l2Copy N f).bind fun x21 => (m_spec_l6Rd_pick N cd x11.2 3).bind fun x23 => (m_spec_l92Other_L11 N cd x23 N x23.2 x21.ver x21.steps 0).bind fun e11 => e11.go (fun r => r) fun b11 => some ((Flow.mk b11.2.1 b11.2.2.1), b11.1)))

set_option maxHeartbeats 4000000 in
theorem c_spec_l92Other (N : Nat) (cd : List UInt8) (p : Nat) (f : Flow) (res : (Flow) × Nat) (h : m_spec_l92Other N cd p f = some res) (w : World) {a_f_steps : Option Addr} {c_f_steps : Nat} {r ccd : Nat} {acd : Option Addr} (hr : (blkC r 103 [.slice acd cd.length ccd, .int .i64 ((p : Nat) : Int)]).A w) (hcd : bytesL.rd w [r] [.slice acd cd.length ccd] cd) (h_f_steps : stepsL.rd w [r] [.slice a_f_steps f.steps.length c_f_steps] f.steps) : Ret Tryz.prog 31 [.pointer (some ⟨r, 0, none⟩), .agg #[.int .i64 f.ver, .slice a_f_steps f.steps.length c_f_steps]] w [r] fun v w' => ∃ a1 c1 F1, v = .agg #[.int .i64 res.1.ver, .slice a1 res.1.steps.length c1] ∧ NewM w w' [r] [owC stepsL F1 [.slice a1 res.1.steps.length c1] res.1.steps, blkC r 103 [.slice acd cd.length ccd, .int .i64 ((res.2 : Nat) : Int)]] := by
  have mh_f_steps := rd_max h_f_steps
  have mhcd := rd_max hcd
  unfold m_spec_l92Other at h
  refine ret_enter Tryz.func31 rfl Tryz.ntmps31 rfl (hp_one hr (by simp [blkC])) ?_
  refine cw_seq ?_
  refine cw_region ?_
  refine wl_u rfl (ow_boxA rfl rfl rfl rfl (fun g3 => kk_wl ?_))
  refine wl_u rfl (ow_allocA Tb rfl rfl rfl rfl (fun g4 => kk_wl ?_))
  refine wl_nil ?_
  refine ex_seq ?_
  refine cw_seq ?_
  refine cw_seq ?_
  refine cw_region ?_
  refine wl_u rfl (ow_y (yh_move rfl rfl) rfl rfl (kk_wl ?_))
  obtain ⟨x11, hx11, h⟩ := bd h
  have mp11 := pick_lt hx11 (by decide)
  refine wl_u rfl (ow_cM0 2 rfl hb77 rfl rfl (fun w hw => c_spec_l6Rd_pick N _ _ _ _ hx11 w (hw.at (i := 2) rfl) (Lay.atR (i := 2) hcd rfl hw)) rfl rfl (kk_wl ?_))
  refine wl_u rfl (ow_y (yh_cmpI rfl rfl rfl rfl) rfl rfl (kk_wl ?_))
  refine wl_u rfl (ow_y (yh_move rfl rfl) rfl rfl (kk_wl ?_))
  refine wl_s rfl rfl (fun c1 => ?_) (fun c1 => ?_)
  · skip
    replace h := bt c1 h
    have q1 := eqb_true.1 c1
    refine wl_n rfl rfl rfl rfl ?_
    refine wl_n rfl rfl rfl rfl ?_
    refine wl_n rfl rfl rfl rfl ?_
    refine wl_u rfl (ow_y (yh_pickT rfl rfl rfl) rfl rfl (kk_wl ?_))
    refine wl_nil ?_
    refine ex_seq ?_
    refine cw_true rfl ?_
    refine cw_seq ?_
    refine cw_region ?_
    refine wl_u rfl (ow_y (yh_move rfl rfl) rfl rfl (kk_wl ?_))
    obtain ⟨x19, hx19, h⟩ := bd h
    refine wl_u rfl (ow_cM1 0 rfl hb30 rfl rfl (fun w hw => c_spec_l91Flow N _ _ _ hx19 w (hw.at (i := 0) rfl) (Lay.atR (i := 0) hcd rfl hw)) rfl rfl (fun a19 c19 F19 => kk_wl ?_))
    refine wl_u rfl (ow_storeA Tb (k := 2) rfl rfl rfl rfl rfl rfl rfl rfl rfl (kk_wl ?_))
    refine wl_nil ?_
    refine ex_seq ?_
    refine cw_ret ?_
    refine ex_then_ret ?_
    obtain rfl := Option.some.inj h
    exact ex_r1 Tb rfl (.cellA 0 rfl rfl rfl rfl rfl) (fun wq hq => ⟨_, rfl, hq.ext, ⟨a19, c19, F19, rfl, NewM.sel [1, 2] hq rfl⟩⟩)
  · skip
    replace h := bf c1 h
    have q2 := eqb_false.1 c1
    refine wl_g rfl rfl (ow_y (yh_loadBA Tb (k := 2) rfl rfl rfl rfl rfl rfl) rfl rfl (kk_wl ?_))
    obtain ⟨x15, hx15, h⟩ := bd h
    refine wl_g rfl rfl (ow_cV rfl hb42 rfl (fun w hw => c_spec_FlowValid N _ _ hx15 w (Lay.at_ h_f_steps hw)) rfl rfl (kk_wl ?_))
    refine wl_g rfl rfl (ow_y (yh_not rfl rfl) rfl rfl (kk_wl ?_))
    refine wl_u rfl (ow_y (yh_pickF rfl rfl rfl) rfl rfl (kk_wl ?_))
    refine wl_nil ?_
    refine ex_seq ?_
    refine cw_split rfl (fun c2 => ?_) (fun c2 => ?_)
    · skip
      replace h := bt c2 h
      refine cw_seq ?_
      refine cw_region ?_
      refine wl_u rfl (ow_y (yh_move rfl rfl) rfl rfl (kk_wl ?_))
      obtain ⟨x19, hx19, h⟩ := bd h
      refine wl_u rfl (ow_cM1 0 rfl hb30 rfl rfl (fun w hw => c_spec_l91Flow N _ _ _ hx19 w (hw.at (i := 0) rfl) (Lay.atR (i := 0) hcd rfl hw)) rfl rfl (fun a19 c19 F19 => kk_wl ?_))
      refine wl_u rfl (ow_storeA Tb (k := 2) rfl rfl rfl rfl rfl rfl rfl rfl rfl (kk_wl ?_))
      refine wl_nil ?_
      refine ex_seq ?_
      refine cw_ret ?_
      refine ex_then_ret ?_
      obtain rfl := Option.some.inj h
      exact ex_r1 Tb rfl (.cellA 0 rfl rfl rfl rfl rfl) (fun wq hq => ⟨_, rfl, hq.ext, ⟨a19, c19, F19, rfl, NewM.sel [1, 2] hq rfl⟩⟩)
    · skip
      replace h := bf c2 h
      refine cw_skip ?_
      refine ex_seq ?_
      refine cw_seq ?_
      refine cw_region ?_
      refine wl_u rfl (ow_y (yh_loadBA Tb (k := 2) rfl rfl rfl rfl rfl rfl) rfl rfl (kk_wl ?_))
      obtain ⟨x21, hx21, h⟩ := bd h
      refine wl_u rfl (ow_cN1 rfl hb53 rfl (fun w hw => c_spec_l2Copy N _ _ hx21 w (Lay.at_ h_f_steps hw)) rfl rfl (fun a21 c21 F21 => kk_wl ?_))
      refine wl_u rfl (ow_allocA Tb rfl rfl rfl rfl (fun g5 => kk_wl ?_))
      refine wl_u rfl (ow_storeA Tb (k := 0) rfl rfl rfl rfl rfl rfl rfl rfl rfl (kk_wl ?_))
      refine wl_nil ?_
      refine ex_seq ?_
      refine cw_seq ?_
      refine cw_region ?_
      refine wl_u rfl (ow_y (yh_move rfl rfl) rfl rfl (kk_wl ?_))
      obtain ⟨x23, hx23, h⟩ := bd h
      have mp23 := pick_lt hx23 (by decide)
      refine wl_u rfl (ow_cM0 2 rfl hb77 rfl rfl (fun w hw => c_spec_l6Rd_pick N _ _ _ _ hx23 w (hw.at (i := 2) rfl) (Lay.atR (i := 2) hcd rfl hw)) rfl rfl (kk_wl ?_))
      refine wl_u rfl (ow_y (yh_assign rfl rfl) rfl rfl (kk_wl ?_))
      refine wl_nil ?_
      refine ex_seq ?_
      refine cw_seq ?_
      refine cw_seq ?_
      refine cw_region ?_
      refine wl_u rfl (ow_y (yh_assign rfl rfl) rfl rfl (kk_wl ?_))
      refine wl_nil ?_
      refine ex_seq ?_
      refine cw_block ?_
      obtain ⟨e11, he11, hk11⟩ := bd h
      clear h
      refine cw_loopG (σ := Nat × Nat × Int × (List Step) × Nat × (Option Addr) × Nat × (List Nat)) (fun s => m_spec_l92Other_L11 N cd x23 s.1 s.2.1 s.2.2.1 s.2.2.2.1 s.2.2.2.2.1 = some e11) (fun s => [(0, .pointer (some ⟨r, 0, none⟩)), (4, .pointer (some ⟨g4, 0, none⟩)), (5, .pointer (some ⟨g5, 0, none⟩)), (6, .int .i64 x23.1), (7, .int .i64 ((s.2.2.2.2.1 : Nat) : Int))]) (fun s => [blkC r 103 [.slice acd cd.length ccd, .int .i64 ((s.2.1 : Nat) : Int)], blkC g4 25 [.int .i64 0, .slice none 0 0], blkC g5 25 [.int .i64 s.2.2.1, .slice s.2.2.2.2.2.1 s.2.2.2.1.length s.2.2.2.2.2.2.1], owC stepsL s.2.2.2.2.2.2.2 [.slice s.2.2.2.2.2.1 s.2.2.2.1.length s.2.2.2.2.2.2.1] s.2.2.2.1]) (fun s => s.1) (N, x23.2, x21.ver, x21.steps, 0, a21, c21, F21) [0, 3, 1, 2] he11 ⟨rfl, rfl, rfl, rfl, rfl, trivial⟩ rfl (fun KL s he11 hn11 => ?_)
      obtain ⟨n11, s0_c_1, s5_c_0, s5_c_1, s7, as5_c_1, cs5_c_1, Fs5_c_1⟩ := s
      simp only at he11 hn11 ⊢
      rcases n11 with _ | n11
      · exact nosome he11
      have h := he11; rw [m_spec_l92Other_L11] at h
      refine cw_seq ?_
      refine cw_seq ?_
      refine cw_region ?_
      refine wl_u rfl (ow_y (yh_move rfl rfl) rfl rfl (kk_wl ?_))
      refine wl_u rfl (ow_y (yh_move rfl rfl) rfl rfl (kk_wl ?_))
      refine wl_u rfl (ow_y (yh_cmpI rfl rfl rfl rfl) rfl rfl (kk_wl ?_))
      refine wl_nil ?_
      refine ex_seq ?_
      refine cw_split rfl (fun c3 => ?_) (fun c3 => ?_)
      · skip
        replace h := bt c3 h
        have q3 := ltb_true.1 c3
        refine cw_skip ?_
        refine ex_seq ?_
        refine cw_seq ?_
        refine cw_block ?_
        refine cw_seq ?_
        refine cw_dr [0, 1, 2, 5, 6, 7, 10] [] [blkC g4 25 [.int .i64 0, .slice none 0 0], blkC g5 25 [.int .i64 s5_c_0, .slice as5_c_1 s5_c_1.length cs5_c_1], owC stepsL Fs5_c_1 [.slice as5_c_1 s5_c_1.length cs5_c_1] s5_c_1] (by kernel_rfl) ?_
        refine wd_take (i := 0) [1, 2, 3] rfl rfl rfl rfl rfl (by kernel_rfl) (by kernel_rfl) (fun _ _ _ _ h => h) (yh_loadBA Tb (k := 1) rfl rfl rfl rfl rfl rfl) ?_
        refine wd_take (i := 1) [1, 2, 3] rfl rfl rfl rfl rfl (by kernel_rfl) (by kernel_rfl) (fun _ _ _ _ h => h) (yh_move rfl rfl) ?_
        refine wd_take (i := 2) [1, 2, 3] rfl rfl rfl rfl rfl (by kernel_rfl) (by kernel_rfl) (fun _ _ _ _ h => h) (yh_loadBA Tb (k := 1) rfl rfl rfl rfl rfl rfl) ?_
        refine wd_all [3, 8] (by kernel_rfl) (by simp) (fun i hi => ?_)
        simp only [List.mem_cons, List.not_mem_nil, or_false] at hi
        rcases hi with rfl | rfl
        · refine ⟨_, rfl, rfl, ?_⟩
          obtain ⟨x33, hx33, h⟩ := bd h
          refine (ow_cM1 0 rfl hb64 rfl rfl (fun w hw => c_spec_l92Change N _ _ _ _ hx33 w (hw.at (i := 0) rfl) (Lay.atR (i := 0) hcd rfl hw) (rdoR (A := stepsL) 3 0 rfl rfl rfl hw)) rfl rfl (fun a33 c33 F33 => kk_wd [2, 3, 4] (by kernel_rfl) ?_))
          refine wd_all [4, 8] (by kernel_rfl) (by simp) (fun i hi => ?_)
          simp only [List.mem_cons, List.not_mem_nil, or_false] at hi
          rcases hi with rfl | rfl
          · refine ⟨_, rfl, rfl, ?_⟩
            obtain ⟨x34, hx34, h⟩ := bd h
            refine (ow_cN1 rfl hb54 rfl (fun w hw => c_spec_FlowChange N _ _ _ hx34 w (rdo (A := stepsL) 4 rfl hw) (rdo (A := strsL) 0 rfl hw)) rfl rfl (fun a34 c34 F34 => kk_wd [3, 4, 5] (by kernel_rfl) ?_))
            refine wd_take (i := 5) [3, 4, 5] rfl rfl rfl rfl rfl (by kernel_rfl) (by kernel_rfl) (fun _ _ _ _ h => h) (yh_move rfl rfl) ?_
            refine wd_take (i := 6) [3, 4, 5] rfl rfl rfl rfl rfl (by kernel_rfl) (by kernel_rfl) (fun _ _ _ _ h => h) (yh_extract rfl rfl rfl) ?_
            refine wd_take (i := 7) [3, 4, 5] rfl rfl rfl rfl rfl (by kernel_rfl) (by kernel_rfl) (fun _ _ _ _ h => h) (yh_extract rfl rfl rfl) ?_
            refine wd_one 8 rfl rfl (by kernel_rfl) (ow_allocA Tb rfl rfl rfl rfl (fun g8 => kk_wd [4, 5, 6] (by kernel_rfl) ?_))
            refine wd_one 9 rfl rfl (by kernel_rfl) (ow_storeA Tb (k := 0) rfl rfl rfl rfl rfl rfl rfl rfl rfl (kk_wd [4, 5, 6] (by kernel_rfl) ?_))
            refine wd_take (i := 10) [4, 5, 6] rfl rfl rfl rfl rfl (by kernel_rfl) (by kernel_rfl) (fun _ _ _ _ h => h) (yh_assign rfl rfl) ?_
            refine wd_done (by kernel_rfl) ?_
            refine ex_seq ?_
            refine cw_seq ?_
            refine cw_region ?_
            refine wl_u rfl (ow_y (yh_move rfl rfl) rfl rfl (kk_wl ?_))
            refine wl_nil ?_
            refine ex_seq ?_
            refine cw_split rfl (fun c4 => ?_) (fun c4 => ?_)
            · skip
              replace h := bt c4 h
              refine cw_region ?_
              refine wl_u rfl (ow_y (yh_loadBA Tb (k := 0) rfl rfl rfl rfl rfl rfl) rfl rfl (kk_wl ?_))
              refine wl_u rfl (ow_storeA Tb (k := 5) rfl rfl rfl rfl rfl rfl rfl rfl rfl (kk_wl ?_))
              refine wl_nil ?_
              refine ex_block_normal ?_
              refine ex_seq ?_
              refine cw_region ?_
              refine wl_u rfl (ow_y (yh_move rfl rfl) rfl rfl (kk_wl ?_))
              refine wl_u rfl (ow_y (yh_arI rfl rfl rfl rfl (by omega)) rfl rfl (kk_wl ?_))
              refine wl_u rfl (ow_y (yh_assign rfl rfl) rfl rfl (kk_wl ?_))
              refine wl_nil ?_
              exact ex_next [4, 5, 0, 2] (hn11 (n11, x33.2, x34.1.ver, x34.1.steps, s7 + 1, a34, c34, F34) (Nat.lt_succ_self _) h) ⟨rfl, rfl, rfl, rfl, rfl, trivial⟩ (by kernel_rfl)
            · skip
              replace h := bf c4 h
              refine cw_skip ?_
              refine ex_block_normal ?_
              refine ex_seq ?_
              refine cw_region ?_
              refine wl_u rfl (ow_y (yh_move rfl rfl) rfl rfl (kk_wl ?_))
              refine wl_u rfl (ow_y (yh_arI rfl rfl rfl rfl (by omega)) rfl rfl (kk_wl ?_))
              refine wl_u rfl (ow_y (yh_assign rfl rfl) rfl rfl (kk_wl ?_))
              refine wl_nil ?_
              exact ex_next [3, 4, 5, 6] (hn11 (n11, x33.2, s5_c_0, s5_c_1, s7 + 1, as5_c_1, cs5_c_1, Fs5_c_1) (Nat.lt_succ_self _) h) ⟨rfl, rfl, rfl, rfl, rfl, trivial⟩ (by kernel_rfl)
          · refine ⟨_, rfl, rfl, ?_⟩
            refine (ow_allocA Tb rfl rfl rfl rfl (fun g8 => kk_wd [3, 4, 5] (by kernel_rfl) ?_))
            obtain ⟨x34, hx34, h⟩ := bd h
            refine wd_one 4 rfl rfl (by kernel_rfl) (ow_cN1 rfl hb54 rfl (fun w hw => c_spec_FlowChange N _ _ _ hx34 w (rdo (A := stepsL) 5 rfl hw) (rdo (A := strsL) 1 rfl hw)) rfl rfl (fun a34 c34 F34 => kk_wd [4, 5, 6] (by kernel_rfl) ?_))
            refine wd_take (i := 5) [4, 5, 6] rfl rfl rfl rfl rfl (by kernel_rfl) (by kernel_rfl) (fun _ _ _ _ h => h) (yh_move rfl rfl) ?_
            refine wd_take (i := 6) [4, 5, 6] rfl rfl rfl rfl rfl (by kernel_rfl) (by kernel_rfl) (fun _ _ _ _ h => h) (yh_extract rfl rfl rfl) ?_
            refine wd_take (i := 7) [4, 5, 6] rfl rfl rfl rfl rfl (by kernel_rfl) (by kernel_rfl) (fun _ _ _ _ h => h) (yh_extract rfl rfl rfl) ?_
            refine wd_one 9 rfl rfl (by kernel_rfl) (ow_storeA Tb (k := 1) rfl rfl rfl rfl rfl rfl rfl rfl rfl (kk_wd [4, 5, 6] (by kernel_rfl) ?_))
            refine wd_take (i := 10) [4, 5, 6] rfl rfl rfl rfl rfl (by kernel_rfl) (by kernel_rfl) (fun _ _ _ _ h => h) (yh_assign rfl rfl) ?_
            refine wd_done (by kernel_rfl) ?_
            refine ex_seq ?_
            refine cw_seq ?_
            refine cw_region ?_
            refine wl_u rfl (ow_y (yh_move rfl rfl) rfl rfl (kk_wl ?_))
            refine wl_nil ?_
            refine ex_seq ?_
            refine cw_split rfl (fun c5 => ?_) (fun c5 => ?_)
            · skip
              replace h := bt c5 h
              refine cw_region ?_
              refine wl_u rfl (ow_y (yh_loadBA Tb (k := 0) rfl rfl rfl rfl rfl rfl) rfl rfl (kk_wl ?_))
              refine wl_u rfl (ow_storeA Tb (k := 5) rfl rfl rfl rfl rfl rfl rfl rfl rfl (kk_wl ?_))
              refine wl_nil ?_
              refine ex_block_normal ?_
              refine ex_seq ?_
              refine cw_region ?_
              refine wl_u rfl (ow_y (yh_move rfl rfl) rfl rfl (kk_wl ?_))
              refine wl_u rfl (ow_y (yh_arI rfl rfl rfl rfl (by omega)) rfl rfl (kk_wl ?_))
              refine wl_u rfl (ow_y (yh_assign rfl rfl) rfl rfl (kk_wl ?_))
              refine wl_nil ?_
              exact ex_next [4, 5, 0, 2] (hn11 (n11, x33.2, x34.1.ver, x34.1.steps, s7 + 1, a34, c34, F34) (Nat.lt_succ_self _) h) ⟨rfl, rfl, rfl, rfl, rfl, trivial⟩ (by kernel_rfl)
            · skip
              replace h := bf c5 h
              refine cw_skip ?_
              refine ex_block_normal ?_
              refine ex_seq ?_
              refine cw_region ?_
              refine wl_u rfl (ow_y (yh_move rfl rfl) rfl rfl (kk_wl ?_))
              refine wl_u rfl (ow_y (yh_arI rfl rfl rfl rfl (by omega)) rfl rfl (kk_wl ?_))
              refine wl_u rfl (ow_y (yh_assign rfl rfl) rfl rfl (kk_wl ?_))
              refine wl_nil ?_
              exact ex_next [3, 4, 5, 6] (hn11 (n11, x33.2, s5_c_0, s5_c_1, s7 + 1, as5_c_1, cs5_c_1, Fs5_c_1) (Nat.lt_succ_self _) h) ⟨rfl, rfl, rfl, rfl, rfl, trivial⟩ (by kernel_rfl)
        · refine ⟨_, rfl, rfl, ?_⟩
          refine (ow_allocA Tb rfl rfl rfl rfl (fun g8 => kk_wd [2, 3, 4] (by kernel_rfl) ?_))
          obtain ⟨x33, hx33, h⟩ := bd h
          refine wd_one 3 rfl rfl (by kernel_rfl) (ow_cM1 1 rfl hb64 rfl rfl (fun w hw => c_spec_l92Change N _ _ _ _ hx33 w (hw.at (i := 1) rfl) (Lay.atR (i := 1) hcd rfl hw) (rdoR (A := stepsL) 4 1 rfl rfl rfl hw)) rfl rfl (fun a33 c33 F33 => kk_wd [3, 4, 5] (by kernel_rfl) ?_))
          obtain ⟨x34, hx34, h⟩ := bd h
          refine wd_one 4 rfl rfl (by kernel_rfl) (ow_cN1 rfl hb54 rfl (fun w hw => c_spec_FlowChange N _ _ _ hx34 w (rdo (A := stepsL) 5 rfl hw) (rdo (A := strsL) 0 rfl hw)) rfl rfl (fun a34 c34 F34 => kk_wd [4, 5, 6] (by kernel_rfl) ?_))
          refine wd_take (i := 5) [4, 5, 6] rfl rfl rfl rfl rfl (by kernel_rfl) (by kernel_rfl) (fun _ _ _ _ h => h) (yh_move rfl rfl) ?_
          refine wd_take (i := 6) [4, 5, 6] rfl rfl rfl rfl rfl (by kernel_rfl) (by kernel_rfl) (fun _ _ _ _ h => h) (yh_extract rfl rfl rfl) ?_
          refine wd_take (i := 7) [4, 5, 6] rfl rfl rfl rfl rfl (by kernel_rfl) (by kernel_rfl) (fun _ _ _ _ h => h) (yh_extract rfl rfl rfl) ?_
          refine wd_one 9 rfl rfl (by kernel_rfl) (ow_storeA Tb (k := 3) rfl rfl rfl rfl rfl rfl rfl rfl rfl (kk_wd [4, 5, 6] (by kernel_rfl) ?_))
          refine wd_take (i := 10) [4, 5, 6] rfl rfl rfl rfl rfl (by kernel_rfl) (by kernel_rfl) (fun _ _ _ _ h => h) (yh_assign rfl rfl) ?_
          refine wd_done (by kernel_rfl) ?_
          refine ex_seq ?_
          refine cw_seq ?_
          refine cw_region ?_
          refine wl_u rfl (ow_y (yh_move rfl rfl) rfl rfl (kk_wl ?_))
          refine wl_nil ?_
          refine ex_seq ?_
          refine cw_split rfl (fun c6 => ?_) (fun c6 => ?_)
          · skip
            replace h := bt c6 h
            refine cw_region ?_
            refine wl_u rfl (ow_y (yh_loadBA Tb (k := 0) rfl rfl rfl rfl rfl rfl) rfl rfl (kk_wl ?_))
            refine wl_u rfl (ow_storeA Tb (k := 5) rfl rfl rfl rfl rfl rfl rfl rfl rfl (kk_wl ?_))
            refine wl_nil ?_
            refine ex_block_normal ?_
            refine ex_seq ?_
            refine cw_region ?_
            refine wl_u rfl (ow_y (yh_move rfl rfl) rfl rfl (kk_wl ?_))
            refine wl_u rfl (ow_y (yh_arI rfl rfl rfl rfl (by omega)) rfl rfl (kk_wl ?_))
            refine wl_u rfl (ow_y (yh_assign rfl rfl) rfl rfl (kk_wl ?_))
            refine wl_nil ?_
            exact ex_next [4, 5, 0, 2] (hn11 (n11, x33.2, x34.1.ver, x34.1.steps, s7 + 1, a34, c34, F34) (Nat.lt_succ_self _) h) ⟨rfl, rfl, rfl, rfl, rfl, trivial⟩ (by kernel_rfl)
          · skip
            replace h := bf c6 h
            refine cw_skip ?_
            refine ex_block_normal ?_
            refine ex_seq ?_
            refine cw_region ?_
            refine wl_u rfl (ow_y (yh_move rfl rfl) rfl rfl (kk_wl ?_))
            refine wl_u rfl (ow_y (yh_arI rfl rfl rfl rfl (by omega)) rfl rfl (kk_wl ?_))
            refine wl_u rfl (ow_y (yh_assign rfl rfl) rfl rfl (kk_wl ?_))
            refine wl_nil ?_
            exact ex_next [3, 4, 5, 6] (hn11 (n11, x33.2, s5_c_0, s5_c_1, s7 + 1, as5_c_1, cs5_c_1, Fs5_c_1) (Nat.lt_succ_self _) h) ⟨rfl, rfl, rfl, rfl, rfl, trivial⟩ (by kernel_rfl)
      · skip
        replace h := bf c3 h
        have q4 := ltb_false.1 c3
        refine cw_exit ?_
        refine ex_then_exit ?_
        refine ex_then_exit ?_
        obtain rfl := Option.some.inj h
        have h := go_brk hk11
        refine ex_block_exit ?_
        refine ex_seq ?_
        refine cw_seq ?_
        refine cw_region ?_
        refine wl_u rfl (ow_y (yh_loadBA Tb (k := 2) rfl rfl rfl rfl rfl rfl) rfl rfl (kk_wl ?_))
        refine wl_u rfl (ow_storeA Tb (k := 1) rfl rfl rfl rfl rfl rfl rfl rfl rfl (kk_wl ?_))
        refine wl_nil ?_
        refine ex_seq ?_
        refine cw_ret ?_
        obtain rfl := Option.some.inj h
        exact ex_r1 Tb rfl (.cellA 0 rfl rfl rfl rfl rfl) (fun wq hq => ⟨_, rfl, hq.ext, ⟨as5_c_1, cs5_c_1, Fs5_c_1, rfl, NewM.sel [3, 1] hq rfl⟩⟩)

def m_spec_DrawChangesOf (N : Nat) (code : List UInt8) : Option (Flow × Flow) := (m_spec_l91Flow N (code.take 2000) 0).bind fun x9 => (m_spec_l92Other N (code.take 2000) x9.2 x9.1).bind fun x13 => some (x9.1, x13.1)

set_option maxHeartbeats 4000000 in
theorem c_spec_DrawChangesOf (N : Nat) (code : List UInt8) (res : Flow × Flow) (h : m_spec_DrawChangesOf N code = some res) (w : World) {a_code : Option Addr} {c_code : Nat} (h_code : bytesL.rd w [] [.slice a_code code.length c_code] code) : Ret Tryz.prog 7 [.slice a_code code.length c_code] w [] fun v w' => ∃ a1 c1 F1 a2 c2 F2, v = .tuple #[.agg #[.int .i64 res.1.ver, .slice a1 res.1.steps.length c1], .agg #[.int .i64 res.2.ver, .slice a2 res.2.steps.length c2]] ∧ NewC w w' [owC stepsL F1 [.slice a1 res.1.steps.length c1] res.1.steps, owC stepsL F2 [.slice a2 res.2.steps.length c2] res.2.steps] := by
  have mh_code := rd_max h_code
  unfold m_spec_DrawChangesOf at h
  refine ret_enter Tryz.func7 rfl Tryz.ntmps7 rfl (Hp.refl w _) ?_
  refine cw_seq ?_
  refine cw_region ?_
  refine wl_u rfl (ow_allocA Tb rfl rfl rfl rfl (fun g2 => kk_wl ?_))
  refine wl_u rfl (ow_allocA Tb rfl rfl rfl rfl (fun g3 => kk_wl ?_))
  refine wl_nil ?_
  refine ex_seq ?_
  refine cw_seq ?_
  refine cw_region ?_
  refine wl_u rfl (ow_y (yh_move rfl rfl) rfl rfl (kk_wl ?_))
  have hf7 := take_fact h_code 2000
  refine wl_u rfl (ow_open rfl rfl (fun w hw => Lay.at_ h_code hw) rfl rfl (fun g7 => kk_wl ?_))
  refine wl_u rfl (ow_y (yh_assign rfl rfl) rfl rfl (kk_wl ?_))
  refine wl_nil ?_
  refine ex_seq ?_
  refine cw_seq ?_
  refine cw_region ?_
  refine wl_u rfl (ow_y (yh_move rfl rfl) rfl rfl (kk_wl ?_))
  obtain ⟨x9, hx9, h⟩ := bd h
  refine wl_u rfl (ow_cM1 0 rfl hb30 rfl rfl (fun w hw => c_spec_l91Flow N _ _ _ hx9 w (hw.at (i := 0) rfl) (Lay.atR (i := 0) hf7 rfl hw)) rfl rfl (fun a9 c9 F9 => kk_wl ?_))
  refine wl_u rfl (ow_allocA Tb rfl rfl rfl rfl (fun g5 => kk_wl ?_))
  refine wl_u rfl (ow_storeA Tb (k := 0) rfl rfl rfl rfl rfl rfl rfl rfl rfl (kk_wl ?_))
  refine wl_nil ?_
  refine ex_seq ?_
  refine cw_seq ?_
  refine cw_dr [0, 1, 2] [4, 5] [blkC g5 25 [.int .i64 x9.1.ver, .slice a9 x9.1.steps.length c9], owC stepsL F9 [.slice a9 x9.1.steps.length c9] x9.1.steps, blkC g3 25 [.int .i64 0, .slice none 0 0], blkC g2 25 [.int .i64 0, .slice none 0 0]] (by kernel_rfl) ?_
  refine wd_take (i := 0) [0, 1, 3, 4] rfl rfl rfl rfl rfl (by kernel_rfl) (by kernel_rfl) (fun _ _ _ _ h => h) (yh_loadBA Tb (k := 0) rfl rfl rfl rfl rfl rfl) ?_
  refine wd_take (i := 1) [0, 1, 3, 4] rfl rfl rfl rfl rfl (by kernel_rfl) (by kernel_rfl) (fun _ _ _ _ h => h) (yh_move rfl rfl) ?_
  refine wd_take (i := 2) [0, 1, 3, 4] rfl rfl rfl rfl rfl (by kernel_rfl) (by kernel_rfl) (fun _ _ _ _ h => h) (yh_loadBA Tb (k := 0) rfl rfl rfl rfl rfl rfl) ?_
  obtain ⟨x13, hx13, h⟩ := bd h
  refine wd_one 3 rfl rfl (by kernel_rfl) (ow_cM1 2 rfl hb31 rfl rfl (fun w hw => c_spec_l92Other N _ _ _ _ hx13 w (hw.at (i := 2) rfl) (Lay.atR (i := 2) hf7 rfl hw) (rdoR (A := stepsL) 1 2 rfl rfl rfl hw)) rfl rfl (fun a13 c13 F13 => kk_wd [2, 3, 4, 5] (by kernel_rfl) ?_))
  refine wd_one 4 rfl rfl (by kernel_rfl) (ow_storeA Tb (k := 5) rfl rfl rfl rfl rfl rfl rfl rfl rfl (kk_wdT rfl ?_))
  refine wd_one 5 rfl rfl (by kernel_rfl) (ow_storeA Tb (k := 5) rfl rfl rfl rfl rfl rfl rfl rfl rfl (kk_wdT rfl ?_))
  refine wd_done (by kernel_rfl) ?_
  refine ex_seq ?_
  refine cw_ret ?_
  obtain rfl := Option.some.inj h
  exact ex_r2 Tb rfl (.cellA 1 rfl rfl rfl rfl rfl) (.cellA 0 rfl rfl rfl rfl rfl) (fun wq hq => ⟨_, rfl, hq.ext, ⟨a9, c9, F9, a13, c13, F13, rfl, NewC.sel [5, 2] hq rfl⟩⟩)

def m_impl_Flow_names_L5 (N : Nat) (f : Flow) : Nat → (List Str) → Nat → Option (Ex (List Str × Nat) (List Str))
  | 0, _, _ => none
  | n + 1, s3, s9 => (bif ltb ((s9 : Nat) : Int) ((f.steps.length : Nat) : Int) then (f.steps[s9]?).bind fun y11 => (appd s3 ([y11.name] : List Str)).bind fun l17 => m_impl_Flow_names_L5 N f n (s3 ++ ([y11.name] : List Str)) (s9 + 1)
 else some (Ex.brk (s3, s9)))

def m_impl_Flow_names (N : Nat) (f : Flow) : Option (List Str) := (m_impl_Flow_names_L5 N f N ([] : List Str) 0).bind fun e5 => e5.go (fun r => r) fun b5 => some b5.1

set_option maxHeartbeats 4000000 in
theorem c_impl_Flow_names (N : Nat) (f : Flow) (res : List Str) (h : m_impl_Flow_names N f = some res) (w : World) {a_f_steps : Option Addr} {c_f_steps : Nat} (h_f_steps : stepsL.rd w [] [.slice a_f_steps f.steps.length c_f_steps] f.steps) : Ret Tryz.prog 34 [.agg #[.int .i64 f.ver, .slice a_f_steps f.steps.length c_f_steps]] w [] fun v w' => ∃ a1 c1 F1, v = .slice a1 res.length c1 ∧ NewC w w' [owC strsL F1 [.slice a1 res.length c1] res] := by
  have mh_f_steps := rd_max h_f_steps
  unfold m_impl_Flow_names at h
  refine ret_enter Tryz.func34 rfl Tryz.ntmps34 rfl (Hp.refl w _) ?_
  refine cw_seq ?_
  refine cw_region ?_
  refine wl_u rfl (ow_boxA rfl rfl rfl rfl (fun g1 => kk_wl ?_))
  refine wl_u rfl (ow_y (yh_assign rfl rfl) rfl rfl (kk_wl ?_))
  refine wl_nil ?_
  refine ex_seq ?_
  refine cw_seq ?_
  refine cw_region ?_
  refine wl_u rfl (ow_y (yh_assign rfl rfl) rfl rfl (kk_wl ?_))
  refine wl_nil ?_
  refine ex_seq ?_
  refine cw_seq ?_
  refine cw_seq ?_
  refine cw_region ?_
  refine wl_u rfl (ow_y (yh_field Tb rfl rfl rfl) rfl rfl (kk_wl ?_))
  refine wl_u rfl (ow_y (yh_loadB Tb (k := 0) rfl rfl rfl rfl rfl) rfl rfl (kk_wl ?_))
  refine wl_u rfl (ow_y (yh_lenS Tb rfl rfl rfl rfl) rfl rfl (kk_wl ?_))
  refine wl_u rfl (ow_y (yh_move rfl rfl) rfl rfl (kk_wl ?_))
  refine wl_nil ?_
  refine ex_seq ?_
  refine cw_block ?_
  obtain ⟨e5, he5, hk5⟩ := bd h
  clear h
  refine cw_nilS strsL rfl ?_
  refine cw_loopG (σ := Nat × (List Str) × Nat × (Option Addr) × Nat × (List Nat)) (fun s => m_impl_Flow_names_L5 N f s.1 s.2.1 s.2.2.1 = some e5) (fun s => [(3, .slice s.2.2.2.1 s.2.1.length s.2.2.2.2.1), (7, .slice a_f_steps f.steps.length c_f_steps), (8, .int .i64 ((f.steps.length : Nat) : Int)), (9, .int .i64 ((s.2.2.1 : Nat) : Int))]) (fun s => [owC strsL s.2.2.2.2.2 [.slice s.2.2.2.1 s.2.1.length s.2.2.2.2.1] s.2.1]) (fun s => s.1) (N, ([] : List Str), 0, none, 0, []) [0] he5 ⟨rfl, rfl, rfl, rfl, trivial⟩ rfl (fun KL s he5 hn5 => ?_)
  obtain ⟨n5, s3, s9, as3, cs3, Fs3⟩ := s
  simp only at he5 hn5 ⊢
  rcases n5 with _ | n5
  · exact nosome he5
  have h := he5; rw [m_impl_Flow_names_L5] at h
  refine cw_seq ?_
  refine cw_region ?_
  refine wl_u rfl (ow_y (yh_cmpI rfl rfl rfl rfl) rfl rfl (kk_wl ?_))
  refine wl_nil ?_
  refine ex_seq ?_
  refine cw_seq ?_
  refine cw_split rfl (fun c1 => ?_) (fun c1 => ?_)
  · skip
    replace h := bt c1 h
    have q1 := ltb_true.1 c1
    refine cw_skip ?_
    refine ex_seq ?_
    refine cw_seq ?_
    refine cw_block ?_
    refine cw_seq ?_
    refine cw_region ?_
    obtain ⟨y11, hy11, h⟩ := bd h
    obtain ⟨b11, o11, ha11⟩ := sl_addr h_f_steps hy11
    subst ha11
    obtain ⟨a11, e11, hc11, hf11⟩ := get_step h_f_steps hy11
    have mx11 := rd_max hf11
    refine wl_u rfl (ow_y (yh_idx Tb (k := s9) rfl rfl rfl rfl (get_lt hy11) rfl rfl) rfl rfl (kk_wl ?_))
    refine wl_u rfl (ow_y (yh_loadAN Tb rfl rfl rfl rfl hc11 rfl) rfl rfl (kk_wl ?_))
    refine wl_u rfl (ow_allocA Tb rfl rfl rfl rfl (fun g5 => kk_wl ?_))
    refine wl_u rfl (ow_storeA Tb (k := 0) rfl rfl rfl rfl rfl rfl rfl rfl rfl (kk_wl ?_))
    refine wl_nil ?_
    refine ex_seq ?_
    refine cw_region ?_
    refine wl_u rfl (ow_y (yh_move rfl rfl) rfl rfl (kk_wl ?_))
    refine wl_u rfl (ow_y (yh_field Tb rfl rfl rfl) rfl rfl (kk_wl ?_))
    refine wl_u rfl (ow_y (yh_loadB Tb (k := 0) rfl rfl rfl rfl rfl) rfl rfl (kk_wl ?_))
    refine wl_u rfl (ow_lit1 Tb rfl rfl rfl rfl rfl rfl rfl rfl rfl rfl (fun g16 => kk_chg (c' := owC strsL [g16] [.slice (some ⟨g16, 0, none⟩) 1 1] ([y11.name] : List Str)) 0 rfl (fun w hA => own_strsL ([y11.name] : List Str) hA rfl (by simp [maxLen])) rfl (kk_wl ?_)))
    obtain ⟨hll17, h⟩ := bd_appd h
    refine wl_u rfl (ow_appP Tb (i := 2) rfl rfl rfl rfl rfl (fun w hw => rdo (A := strsL) 0 rfl hw) rfl rfl rfl rfl hll17 (by decide) rfl rfl (fun a17 c17 F17 => kk_wl ?_))
    refine wl_u rfl (ow_y (yh_assign rfl rfl) rfl rfl (kk_wl ?_))
    refine wl_nil ?_
    refine ex_block_normal ?_
    refine ex_seq ?_
    refine cw_region ?_
    refine wl_u rfl (ow_y (yh_arI rfl rfl rfl rfl (by omega)) rfl rfl (kk_wl ?_))
    refine wl_u rfl (ow_y (yh_move rfl rfl) rfl rfl (kk_wl ?_))
    refine wl_nil ?_
    exact ex_next [0] (hn5 (n5, (s3 ++ ([y11.name] : List Str)), s9 + 1, a17, c17, F17) (Nat.lt_succ_self _) h) ⟨rfl, rfl, rfl, rfl, trivial⟩ (by kernel_rfl)
  · skip
    replace h := bf c1 h
    have q2 := ltb_false.1 c1
    refine cw_exit ?_
    refine ex_then_exit ?_
    refine ex_then_exit ?_
    obtain rfl := Option.some.inj h
    have h := go_brk hk5
    refine ex_block_exit ?_
    refine ex_seq ?_
    refine cw_seq ?_
    refine cw_region ?_
    refine wl_u rfl (ow_y (yh_move rfl rfl) rfl rfl (kk_wl ?_))
    refine wl_u rfl (ow_y (yh_assign rfl rfl) rfl rfl (kk_wl ?_))
    refine wl_nil ?_
    refine ex_seq ?_
    refine cw_ret ?_
    obtain rfl := Option.some.inj h
    exact ex_r1 Tb rfl (.tmp rfl) (fun wq hq => ⟨_, rfl, hq.ext, ⟨as3, cs3, Fs3, rfl, NewC.sel [0] hq rfl⟩⟩)

def m_impl_NameValid_L8 (N : Nat) (s_ : Str) : Nat → Nat → Option (Ex (Nat) (Bool))
  | 0, _ => none
  | n + 1, s14 => (bif ltb ((s14 : Nat) : Int) ((s_.size : Nat) : Int) then (bget s_ s14).bind fun y19 => (bif ltb ((y19 : Nat) : Int) 97 then some (Ex.ret false)
 else (bget s_ s14).bind fun y24 => (bif ltb 122 ((y24 : Nat) : Int) then some (Ex.ret false)
 else m_impl_NameValid_L8 N s_ n (s14 + 1)))
 else some (Ex.brk (s14)))

def m_impl_NameValid (N : Nat) (s_ : Str) : Option (Bool) := (ssz s_).bind fun z5 => (bif ltb ((s_.size : Nat) : Int) 1 then some false
 else (bif ltb 5 ((s_.size : Nat) : Int) then some false
 else (m_impl_NameValid_L8 N s_ N 0).bind fun e8 => e8.go (fun r => r) fun b8 => some true))

set_option maxHeartbeats 4000000 in
theorem c_impl_NameValid (N : Nat) (s_ : Str) (res : Bool) (h : m_impl_NameValid N s_ = some res) (w : World) : Ret Tryz.prog 103 [.string s_] w [] fun v w' => v = .bool res := by
  unfold m_impl_NameValid at h
  refine ret_enter Tryz.func103 rfl Tryz.ntmps103 rfl (Hp.refl w _) ?_
  refine cw_seq ?_
  refine cw_region ?_
  refine wl_u rfl (ow_y (yh_assign rfl rfl) rfl rfl (kk_wl ?_))
  refine wl_nil ?_
  refine ex_seq ?_
  refine cw_seq ?_
  refine cw_seq ?_
  refine cw_region ?_
  refine wl_u rfl (ow_y (yh_move rfl rfl) rfl rfl (kk_wl ?_))
  obtain ⟨z5, hz5, h⟩ := bd h
  have mz5 := ssz_some hz5
  refine wl_u rfl (ow_y (yh_lenT Tb rfl rfl rfl rfl) rfl rfl (kk_wl ?_))
  refine wl_u rfl (ow_y (yh_cmpI rfl rfl rfl rfl) rfl rfl (kk_wl ?_))
  refine wl_u rfl (ow_y (yh_move rfl rfl) rfl rfl (kk_wl ?_))
  refine wl_s rfl rfl (fun c1 => ?_) (fun c1 => ?_)
  · skip
    replace h := bt c1 h
    have q1 := ltb_true.1 c1
    refine wl_n rfl rfl rfl rfl ?_
    refine wl_n rfl rfl rfl rfl ?_
    refine wl_n rfl rfl rfl rfl ?_
    refine wl_u rfl (ow_y (yh_pickT rfl rfl rfl) rfl rfl (kk_wl ?_))
    refine wl_nil ?_
    refine ex_seq ?_
    refine cw_true rfl ?_
    refine cw_seq ?_
    refine cw_region ?_
    refine wl_u rfl (ow_y (yh_assign rfl rfl) rfl rfl (kk_wl ?_))
    refine wl_nil ?_
    refine ex_seq ?_
    refine cw_ret ?_
    refine ex_then_ret ?_
    obtain rfl := Option.some.inj h
    exact ex_r1 Tb rfl (.tmp rfl) (fun wq hq => ⟨_, rfl, hq.ext, rfl⟩)
  · skip
    replace h := bf c1 h
    have q2 := ltb_false.1 c1
    refine wl_g rfl rfl (ow_y (yh_move rfl rfl) rfl rfl (kk_wl ?_))
    refine wl_g rfl rfl (ow_y (yh_lenT Tb rfl rfl rfl rfl) rfl rfl (kk_wl ?_))
    refine wl_g rfl rfl (ow_y (yh_cmpI rfl rfl rfl rfl) rfl rfl (kk_wl ?_))
    refine wl_u rfl (ow_y (yh_pickF rfl rfl rfl) rfl rfl (kk_wl ?_))
    refine wl_nil ?_
    refine ex_seq ?_
    refine cw_split rfl (fun c2 => ?_) (fun c2 => ?_)
    · skip
      replace h := bt c2 h
      have q3 := ltb_true.1 c2
      refine cw_seq ?_
      refine cw_region ?_
      refine wl_u rfl (ow_y (yh_assign rfl rfl) rfl rfl (kk_wl ?_))
      refine wl_nil ?_
      refine ex_seq ?_
      refine cw_ret ?_
      refine ex_then_ret ?_
      obtain rfl := Option.some.inj h
      exact ex_r1 Tb rfl (.tmp rfl) (fun wq hq => ⟨_, rfl, hq.ext, rfl⟩)
    · skip
      replace h := bf c2 h
      have q4 := ltb_false.1 c2
      refine cw_skip ?_
      refine ex_seq ?_
      refine cw_seq ?_
      refine cw_seq ?_
      refine cw_region ?_
      refine wl_u rfl (ow_y (yh_move rfl rfl) rfl rfl (kk_wl ?_))
      refine wl_u rfl (ow_y (yh_lenT Tb rfl rfl rfl rfl) rfl rfl (kk_wl ?_))
      refine wl_u rfl (ow_y (yh_move rfl rfl) rfl rfl (kk_wl ?_))
      refine wl_nil ?_
      refine ex_seq ?_
      refine cw_block ?_
      obtain ⟨e8, he8, hk8⟩ := bd h
      clear h
      refine cw_loopG (σ := Nat × Nat) (fun s => m_impl_NameValid_L8 N s_ s.1 s.2 = some e8) (fun s => [(0, .string s_), (13, .int .i64 ((s_.size : Nat) : Int)), (14, .int .i64 ((s.2 : Nat) : Int))]) (fun s => []) (fun s => s.1) (N, 0) [] he8 ⟨rfl, rfl, rfl, trivial⟩ rfl (fun KL s he8 hn8 => ?_)
      obtain ⟨n8, s14⟩ := s
      simp only at he8 hn8 ⊢
      rcases n8 with _ | n8
      · exact nosome he8
      have h := he8; rw [m_impl_NameValid_L8] at h
      refine cw_seq ?_
      refine cw_region ?_
      refine wl_u rfl (ow_y (yh_cmpI rfl rfl rfl rfl) rfl rfl (kk_wl ?_))
      refine wl_nil ?_
      refine ex_seq ?_
      refine cw_seq ?_
      refine cw_split rfl (fun c3 => ?_) (fun c3 => ?_)
      · skip
        replace h := bt c3 h
        have q5 := ltb_true.1 c3
        refine cw_skip ?_
        refine ex_seq ?_
        refine cw_seq ?_
        refine cw_block ?_
        refine cw_seq ?_
        refine cw_region ?_
        refine wl_u rfl (ow_y (yh_move rfl rfl) rfl rfl (kk_wl ?_))
        refine wl_u rfl (ow_y (yh_assign rfl rfl) rfl rfl (kk_wl ?_))
        refine wl_nil ?_
        refine ex_seq ?_
        refine cw_seq ?_
        refine cw_region ?_
        refine wl_u rfl (ow_y (yh_move rfl rfl) rfl rfl (kk_wl ?_))
        refine wl_u rfl (ow_y (yh_move rfl rfl) rfl rfl (kk_wl ?_))
        obtain ⟨y19, hy19, h⟩ := bd h
        refine wl_u rfl (ow_y (yh_indexS Tb (k := s14) rfl rfl rfl rfl hy19 rfl) rfl rfl (kk_wl ?_))
        refine wl_u rfl (ow_y (yh_cmpI rfl rfl rfl rfl) rfl rfl (kk_wl ?_))
        refine wl_u rfl (ow_y (yh_move rfl rfl) rfl rfl (kk_wl ?_))
        refine wl_s rfl rfl (fun c4 => ?_) (fun c4 => ?_)
        · skip
          replace h := bt c4 h
          have q6 := ltb_true.1 c4
          refine wl_n rfl rfl rfl rfl ?_
          refine wl_n rfl rfl rfl rfl ?_
          refine wl_n rfl rfl rfl rfl ?_
          refine wl_n rfl rfl rfl rfl ?_
          refine wl_u rfl (ow_y (yh_pickT rfl rfl rfl) rfl rfl (kk_wl ?_))
          refine wl_nil ?_
          refine ex_seq ?_
          refine cw_true rfl ?_
          refine cw_seq ?_
          refine cw_region ?_
          refine wl_u rfl (ow_y (yh_assign rfl rfl) rfl rfl (kk_wl ?_))
          refine wl_nil ?_
          refine ex_seq ?_
          refine cw_ret ?_
          refine ex_block_ret ?_
          refine ex_then_ret ?_
          refine ex_then_ret ?_
          refine ex_block_ret ?_
          refine ex_then_ret ?_
          obtain rfl := Option.some.inj h
          obtain rfl := go_ret hk8
          exact ex_r1 Tb rfl (.tmp rfl) (fun wq hq => ⟨_, rfl, hq.ext, rfl⟩)
        · skip
          replace h := bf c4 h
          have q7 := ltb_false.1 c4
          refine wl_g rfl rfl (ow_y (yh_move rfl rfl) rfl rfl (kk_wl ?_))
          refine wl_g rfl rfl (ow_y (yh_move rfl rfl) rfl rfl (kk_wl ?_))
          obtain ⟨y24, hy24, h⟩ := bd h
          refine wl_g rfl rfl (ow_y (yh_indexS Tb (k := s14) rfl rfl rfl rfl hy24 rfl) rfl rfl (kk_wl ?_))
          refine wl_g rfl rfl (ow_y (yh_cmpI rfl rfl rfl rfl) rfl rfl (kk_wl ?_))
          refine wl_u rfl (ow_y (yh_pickF rfl rfl rfl) rfl rfl (kk_wl ?_))
          refine wl_nil ?_
          refine ex_seq ?_
          refine cw_split rfl (fun c5 => ?_) (fun c5 => ?_)
          · skip
            replace h := bt c5 h
            have q8 := ltb_true.1 c5
            refine cw_seq ?_
            refine cw_region ?_
            refine wl_u rfl (ow_y (yh_assign rfl rfl) rfl rfl (kk_wl ?_))
            refine wl_nil ?_
            refine ex_seq ?_
            refine cw_ret ?_
            refine ex_block_ret ?_
            refine ex_then_ret ?_
            refine ex_then_ret ?_
            refine ex_block_ret ?_
            refine ex_then_ret ?_
            obtain rfl := Option.some.inj h
            obtain rfl := go_ret hk8
            exact ex_r1 Tb rfl (.tmp rfl) (fun wq hq => ⟨_, rfl, hq.ext, rfl⟩)
          · skip
            replace h := bf c5 h
            have q9 := ltb_false.1 c5
            refine cw_skip ?_
            refine ex_block_normal ?_
            refine ex_seq ?_
            refine cw_region ?_
            refine wl_u rfl (ow_y (yh_arI rfl rfl rfl rfl (by omega)) rfl rfl (kk_wl ?_))
            refine wl_u rfl (ow_y (yh_move rfl rfl) rfl rfl (kk_wl ?_))
            refine wl_nil ?_
            exact ex_next [] (hn8 (n8, s14 + 1) (Nat.lt_succ_self _) h) ⟨rfl, rfl, rfl, trivial⟩ (by kernel_rfl)
      · skip
        replace h := bf c3 h
        have q10 := ltb_false.1 c3
        refine cw_exit ?_
        refine ex_then_exit ?_
        refine ex_then_exit ?_
        obtain rfl := Option.some.inj h
        have h := go_brk hk8
        refine ex_block_exit ?_
        refine ex_seq ?_
        refine cw_seq ?_
        refine cw_region ?_
        refine wl_u rfl (ow_y (yh_assign rfl rfl) rfl rfl (kk_wl ?_))
        refine wl_nil ?_
        refine ex_seq ?_
        refine cw_ret ?_
        obtain rfl := Option.some.inj h
        exact ex_r1 Tb rfl (.tmp rfl) (fun wq hq => ⟨_, rfl, hq.ext, rfl⟩)

def m_impl_namesAscend_L4 (N : Nat) (list_ : List Str) : Nat → Nat → Option (Ex (Nat) (Bool))
  | 0, _ => none
  | n + 1, s7 => (bif ltb ((s7 : Nat) : Int) ((list_.length : Nat) : Int) then (list_[s7]?).bind fun y10 => (m_impl_NameValid N y10).bind fun x13 => (bif !x13 then some (Ex.ret false)
 else (bif ltb 0 ((s7 : Nat) : Int) then (geti list_ (((s7 : Nat) : Int) - 1)).bind fun y23 => (bif (slt y10 y23) || (seq y10 y23) then some (Ex.ret false)
 else m_impl_namesAscend_L4 N list_ n (s7 + 1))
 else m_impl_namesAscend_L4 N list_ n (s7 + 1)))
 else some (Ex.brk (s7)))

def m_impl_namesAscend (N : Nat) (list_ : List Str) : Option (Bool) := (m_impl_namesAscend_L4 N list_ N 0).bind fun e4 => e4.go (fun r => r) fun b4 => some true

set_option maxHeartbeats 4000000 in
theorem c_impl_namesAscend (N : Nat) (list_ : List Str) (res : Bool) (h : m_impl_namesAscend N list_ = some res) (w : World) {a_list_ : Option Addr} {c_list_ : Nat} (h_list_ : strsL.rd w [] [.slice a_list_ list_.length c_list_] list_) : Ret Tryz.prog 78 [.slice a_list_ list_.length c_list_] w [] fun v w' => v = .bool res := by
  have mh_list_ := rd_max h_list_
  unfold m_impl_namesAscend at h
  refine ret_enter Tryz.func78 rfl Tryz.ntmps78 rfl (Hp.refl w _) ?_
  refine cw_seq ?_
  refine cw_region ?_
  refine wl_u rfl (ow_y (yh_assign rfl rfl) rfl rfl (kk_wl ?_))
  refine wl_nil ?_
  refine ex_seq ?_
  refine cw_seq ?_
  refine cw_seq ?_
  refine cw_region ?_
  refine wl_u rfl (ow_y (yh_move rfl rfl) rfl rfl (kk_wl ?_))
  refine wl_u rfl (ow_y (yh_lenS Tb rfl rfl rfl rfl) rfl rfl (kk_wl ?_))
  refine wl_u rfl (ow_y (yh_move rfl rfl) rfl rfl (kk_wl ?_))
  refine wl_nil ?_
  refine ex_seq ?_
  refine cw_block ?_
  obtain ⟨e4, he4, hk4⟩ := bd h
  clear h
  refine cw_loopG (σ := Nat × Nat) (fun s => m_impl_namesAscend_L4 N list_ s.1 s.2 = some e4) (fun s => [(0, .slice a_list_ list_.length c_list_), (5, .slice a_list_ list_.length c_list_), (6, .int .i64 ((list_.length : Nat) : Int)), (7, .int .i64 ((s.2 : Nat) : Int))]) (fun s => []) (fun s => s.1) (N, 0) [] he4 ⟨rfl, rfl, rfl, rfl, trivial⟩ rfl (fun KL s he4 hn4 => ?_)
  obtain ⟨n4, s7⟩ := s
  simp only at he4 hn4 ⊢
  rcases n4 with _ | n4
  · exact nosome he4
  have h := he4; rw [m_impl_namesAscend_L4] at h
  refine cw_seq ?_
  refine cw_region ?_
  refine wl_u rfl (ow_y (yh_cmpI rfl rfl rfl rfl) rfl rfl (kk_wl ?_))
  refine wl_nil ?_
  refine ex_seq ?_
  refine cw_seq ?_
  refine cw_split rfl (fun c1 => ?_) (fun c1 => ?_)
  · skip
    replace h := bt c1 h
    have q1 := ltb_true.1 c1
    refine cw_skip ?_
    refine ex_seq ?_
    refine cw_seq ?_
    refine cw_block ?_
    refine cw_seq ?_
    refine cw_region ?_
    refine wl_u rfl (ow_y (yh_move rfl rfl) rfl rfl (kk_wl ?_))
    obtain ⟨y10, hy10, h⟩ := bd h
    obtain ⟨b10, o10, ha10⟩ := sl_addr h_list_ hy10
    subst ha10
    have hc10 := get_str h_list_ hy10
    refine wl_u rfl (ow_y (yh_idx Tb (k := s7) rfl rfl rfl rfl (get_lt hy10) rfl rfl) rfl rfl (kk_wl ?_))
    refine wl_u rfl (ow_y (yh_loadA0 Tb rfl rfl rfl hc10 rfl) rfl rfl (kk_wl ?_))
    refine wl_u rfl (ow_y (yh_assign rfl rfl) rfl rfl (kk_wl ?_))
    refine wl_u rfl (ow_y (yh_assign rfl rfl) rfl rfl (kk_wl ?_))
    refine wl_nil ?_
    refine ex_seq ?_
    refine cw_seq ?_
    refine cw_region ?_
    refine wl_u rfl (ow_y (yh_move rfl rfl) rfl rfl (kk_wl ?_))
    obtain ⟨x13, hx13, h⟩ := bd h
    refine wl_u rfl (ow_cV rfl hb103 rfl (fun w hw => c_impl_NameValid N _ _ hx13 w) rfl rfl (kk_wl ?_))
    refine wl_u rfl (ow_y (yh_not rfl rfl) rfl rfl (kk_wl ?_))
    refine wl_u rfl (ow_y (yh_move rfl rfl) rfl rfl (kk_wl ?_))
    refine wl_s rfl rfl (fun c2 => ?_) (fun c2 => ?_)
    · skip
      replace h := bt c2 h
      refine wl_n rfl rfl rfl rfl ?_
      refine wl_n rfl rfl rfl rfl ?_
      refine wl_n rfl rfl rfl rfl ?_
      refine wl_n rfl rfl rfl rfl ?_
      refine wl_n rfl rfl rfl rfl ?_
      refine wl_n rfl rfl rfl rfl ?_
      refine wl_n rfl rfl rfl rfl ?_
      refine wl_n rfl rfl rfl rfl ?_
      refine wl_n rfl rfl rfl rfl ?_
      refine wl_n rfl rfl rfl rfl ?_
      refine wl_n rfl rfl rfl rfl ?_
      refine wl_u rfl (ow_y (yh_pickT rfl rfl rfl) rfl rfl (kk_wl ?_))
      refine wl_nil ?_
      refine ex_seq ?_
      refine cw_true rfl ?_
      refine cw_seq ?_
      refine cw_region ?_
      refine wl_u rfl (ow_y (yh_assign rfl rfl) rfl rfl (kk_wl ?_))
      refine wl_nil ?_
      refine ex_seq ?_
      refine cw_ret ?_
      refine ex_block_ret ?_
      refine ex_then_ret ?_
      refine ex_then_ret ?_
      refine ex_block_ret ?_
      refine ex_then_ret ?_
      obtain rfl := Option.some.inj h
      obtain rfl := go_ret hk4
      exact ex_r1 Tb rfl (.tmp rfl) (fun wq hq => ⟨_, rfl, hq.ext, rfl⟩)
    · skip
      replace h := bf c2 h
      refine wl_g rfl rfl (ow_y (yh_move rfl rfl) rfl rfl (kk_wl ?_))
      refine wl_g rfl rfl (ow_y (yh_cmpI rfl rfl rfl rfl) rfl rfl (kk_wl ?_))
      refine wl_g rfl rfl (ow_y (yh_move rfl rfl) rfl rfl (kk_wl ?_))
      refine wl_s rfl rfl (fun c3 => ?_) (fun c3 => ?_)
      · skip
        replace h := bt c3 h
        have q2 := ltb_true.1 c3
        refine wl_g rfl rfl (ow_y (yh_move rfl rfl) rfl rfl (kk_wl ?_))
        refine wl_g rfl rfl (ow_y (yh_move rfl rfl) rfl rfl (kk_wl ?_))
        refine wl_g rfl rfl (ow_y (yh_move rfl rfl) rfl rfl (kk_wl ?_))
        refine wl_g rfl rfl (ow_y (yh_arI rfl rfl rfl rfl (by omega)) rfl rfl (kk_wl ?_))
        obtain ⟨y23, zy23, h⟩ := bd h
        obtain ⟨iy23, hy23⟩ := geti_some zy23
        have hc23 := get_str h_list_ hy23
        refine wl_g rfl rfl (ow_y (yh_idx Tb (k := (((s7 : Nat) : Int) - 1).toNat) rfl rfl rfl iy23 (get_lt hy23) rfl rfl) rfl rfl (kk_wl ?_))
        refine wl_g rfl rfl (ow_y (yh_loadA0 Tb rfl rfl rfl hc23 rfl) rfl rfl (kk_wl ?_))
        refine wl_g rfl rfl (ow_y (yh_cmpS rfl rfl rfl rfl) rfl rfl (kk_wl ?_))
        refine wl_g rfl rfl (ow_y (yh_pickT rfl rfl rfl) rfl rfl (kk_wl ?_))
        refine wl_u rfl (ow_y (yh_pickF rfl rfl rfl) rfl rfl (kk_wl ?_))
        refine wl_nil ?_
        refine ex_seq ?_
        refine cw_split rfl (fun c4 => ?_) (fun c4 => ?_)
        · skip
          replace h := bt c4 h
          refine cw_seq ?_
          refine cw_region ?_
          refine wl_u rfl (ow_y (yh_assign rfl rfl) rfl rfl (kk_wl ?_))
          refine wl_nil ?_
          refine ex_seq ?_
          refine cw_ret ?_
          refine ex_block_ret ?_
          refine ex_then_ret ?_
          refine ex_then_ret ?_
          refine ex_block_ret ?_
          refine ex_then_ret ?_
          obtain rfl := Option.some.inj h
          obtain rfl := go_ret hk4
          exact ex_r1 Tb rfl (.tmp rfl) (fun wq hq => ⟨_, rfl, hq.ext, rfl⟩)
        · skip
          replace h := bf c4 h
          refine cw_skip ?_
          refine ex_block_normal ?_
          refine ex_seq ?_
          refine cw_region ?_
          refine wl_u rfl (ow_y (yh_arI rfl rfl rfl rfl (by omega)) rfl rfl (kk_wl ?_))
          refine wl_u rfl (ow_y (yh_move rfl rfl) rfl rfl (kk_wl ?_))
          refine wl_nil ?_
          exact ex_next [] (hn4 (n4, s7 + 1) (Nat.lt_succ_self _) h) ⟨rfl, rfl, rfl, rfl, trivial⟩ (by kernel_rfl)
      · skip
        replace h := bf c3 h
        have q3 := ltb_false.1 c3
        refine wl_n rfl rfl rfl rfl ?_
        refine wl_n rfl rfl rfl rfl ?_
        refine wl_n rfl rfl rfl rfl ?_
        refine wl_n rfl rfl rfl rfl ?_
        refine wl_n rfl rfl rfl rfl ?_
        refine wl_n rfl rfl rfl rfl ?_
        refine wl_n rfl rfl rfl rfl ?_
        refine wl_g rfl rfl (ow_y (yh_pickF rfl rfl rfl) rfl rfl (kk_wl ?_))
        refine wl_u rfl (ow_y (yh_pickF rfl rfl rfl) rfl rfl (kk_wl ?_))
        refine wl_nil ?_
        refine ex_seq ?_
        refine cw_false rfl ?_
        refine cw_skip ?_
        refine ex_block_normal ?_
        refine ex_seq ?_
        refine cw_region ?_
        refine wl_u rfl (ow_y (yh_arI rfl rfl rfl rfl (by omega)) rfl rfl (kk_wl ?_))
        refine wl_u rfl (ow_y (yh_move rfl rfl) rfl rfl (kk_wl ?_))
        refine wl_nil ?_
        exact ex_next [] (hn4 (n4, s7 + 1) (Nat.lt_succ_self _) h) ⟨rfl, rfl, rfl, rfl, trivial⟩ (by kernel_rfl)
  · skip
    replace h := bf c1 h
    have q4 := ltb_false.1 c1
    refine cw_exit ?_
    refine ex_then_exit ?_
    refine ex_then_exit ?_
    obtain rfl := Option.some.inj h
    have h := go_brk hk4
    refine ex_block_exit ?_
    refine ex_seq ?_
    refine cw_seq ?_
    refine cw_region ?_
    refine wl_u rfl (ow_y (yh_assign rfl rfl) rfl rfl (kk_wl ?_))
    refine wl_nil ?_
    refine ex_seq ?_
    refine cw_ret ?_
    obtain rfl := Option.some.inj h
    exact ex_r1 Tb rfl (.tmp rfl) (fun wq hq => ⟨_, rfl, hq.ext, rfl⟩)

def m_slices_Index_string_L4 (N : Nat) (s_ : List Str) (v_ : Str) : Nat → Nat → Option (Ex (Nat) (Int))
  | 0, _ => none
  | n + 1, s8 => (bif ltb ((s8 : Nat) : Int) ((s_.length : Nat) : Int) then (s_[s8]?).bind fun y14 => (bif seq v_ y14 then some (Ex.ret ((s8 : Nat) : Int))
 else m_slices_Index_string_L4 N s_ v_ n (s8 + 1))
 else some (Ex.brk (s8)))

def m_slices_Index_string (N : Nat) (s_ : List Str) (v_ : Str) : Option (Int) := (m_slices_Index_string_L4 N s_ v_ N 0).bind fun e4 => e4.go (fun r => r) fun b4 => some (-1)

set_option maxHeartbeats 4000000 in
theorem c_slices_Index_string (N : Nat) (s_ : List Str) (v_ : Str) (res : Int) (h : m_slices_Index_string N s_ v_ = some res) (w : World) {a_s_ : Option Addr} {c_s_ : Nat} (h_s_ : strsL.rd w [] [.slice a_s_ s_.length c_s_] s_) : Ret Tryz.prog 125 [.slice a_s_ s_.length c_s_, .string v_] w [] fun v w' => v = .int .i64 res := by
  have mh_s_ := rd_max h_s_
  unfold m_slices_Index_string at h
  refine ret_enter Tryz.func125 rfl Tryz.ntmps125 rfl (Hp.refl w _) ?_
  refine cw_seq ?_
  refine cw_region ?_
  refine wl_u rfl (ow_y (yh_assign rfl rfl) rfl rfl (kk_wl ?_))
  refine wl_nil ?_
  refine ex_seq ?_
  refine cw_seq ?_
  refine cw_seq ?_
  refine cw_region ?_
  refine wl_u rfl (ow_y (yh_move rfl rfl) rfl rfl (kk_wl ?_))
  refine wl_u rfl (ow_y (yh_lenS Tb rfl rfl rfl rfl) rfl rfl (kk_wl ?_))
  refine wl_u rfl (ow_y (yh_move rfl rfl) rfl rfl (kk_wl ?_))
  refine wl_nil ?_
  refine ex_seq ?_
  refine cw_block ?_
  obtain ⟨e4, he4, hk4⟩ := bd h
  clear h
  refine cw_loopG (σ := Nat × Nat) (fun s => m_slices_Index_string_L4 N s_ v_ s.1 s.2 = some e4) (fun s => [(0, .slice a_s_ s_.length c_s_), (1, .string v_), (7, .int .i64 ((s_.length : Nat) : Int)), (8, .int .i64 ((s.2 : Nat) : Int))]) (fun s => []) (fun s => s.1) (N, 0) [] he4 ⟨rfl, rfl, rfl, rfl, trivial⟩ rfl (fun KL s he4 hn4 => ?_)
  obtain ⟨n4, s8⟩ := s
  simp only at he4 hn4 ⊢
  rcases n4 with _ | n4
  · exact nosome he4
  have h := he4; rw [m_slices_Index_string_L4] at h
  refine cw_seq ?_
  refine cw_region ?_
  refine wl_u rfl (ow_y (yh_cmpI rfl rfl rfl rfl) rfl rfl (kk_wl ?_))
  refine wl_nil ?_
  refine ex_seq ?_
  refine cw_seq ?_
  refine cw_split rfl (fun c1 => ?_) (fun c1 => ?_)
  · skip
    replace h := bt c1 h
    have q1 := ltb_true.1 c1
    refine cw_skip ?_
    refine ex_seq ?_
    refine cw_seq ?_
    refine cw_block ?_
    refine cw_seq ?_
    refine cw_region ?_
    refine wl_u rfl (ow_y (yh_move rfl rfl) rfl rfl (kk_wl ?_))
    refine wl_u rfl (ow_y (yh_assign rfl rfl) rfl rfl (kk_wl ?_))
    refine wl_nil ?_
    refine ex_seq ?_
    refine cw_seq ?_
    refine cw_region ?_
    refine wl_u rfl (ow_y (yh_move rfl rfl) rfl rfl (kk_wl ?_))
    refine wl_u rfl (ow_y (yh_move rfl rfl) rfl rfl (kk_wl ?_))
    refine wl_u rfl (ow_y (yh_move rfl rfl) rfl rfl (kk_wl ?_))
    obtain ⟨y14, hy14, h⟩ := bd h
    obtain ⟨b14, o14, ha14⟩ := sl_addr h_s_ hy14
    subst ha14
    have hc14 := get_str h_s_ hy14
    refine wl_u rfl (ow_y (yh_idx Tb (k := s8) rfl rfl rfl rfl (get_lt hy14) rfl rfl) rfl rfl (kk_wl ?_))
    refine wl_u rfl (ow_y (yh_loadA0 Tb rfl rfl rfl hc14 rfl) rfl rfl (kk_wl ?_))
    refine wl_u rfl (ow_y (yh_cmpS rfl rfl rfl rfl) rfl rfl (kk_wl ?_))
    refine wl_nil ?_
    refine ex_seq ?_
    refine cw_split rfl (fun c2 => ?_) (fun c2 => ?_)
    · skip
      replace h := bt c2 h
      refine cw_seq ?_
      refine cw_region ?_
      refine wl_u rfl (ow_y (yh_move rfl rfl) rfl rfl (kk_wl ?_))
      refine wl_u rfl (ow_y (yh_assign rfl rfl) rfl rfl (kk_wl ?_))
      refine wl_nil ?_
      refine ex_seq ?_
      refine cw_ret ?_
      refine ex_block_ret ?_
      refine ex_then_ret ?_
      refine ex_then_ret ?_
      refine ex_block_ret ?_
      refine ex_then_ret ?_
      obtain rfl := Option.some.inj h
      obtain rfl := go_ret hk4
      exact ex_r1 Tb rfl (.tmp rfl) (fun wq hq => ⟨_, rfl, hq.ext, rfl⟩)
    · skip
      replace h := bf c2 h
      refine cw_skip ?_
      refine ex_block_normal ?_
      refine ex_seq ?_
      refine cw_region ?_
      refine wl_u rfl (ow_y (yh_arI rfl rfl rfl rfl (by omega)) rfl rfl (kk_wl ?_))
      refine wl_u rfl (ow_y (yh_move rfl rfl) rfl rfl (kk_wl ?_))
      refine wl_nil ?_
      exact ex_next [] (hn4 (n4, s8 + 1) (Nat.lt_succ_self _) h) ⟨rfl, rfl, rfl, rfl, trivial⟩ (by kernel_rfl)
  · skip
    replace h := bf c1 h
    have q2 := ltb_false.1 c1
    refine cw_exit ?_
    refine ex_then_exit ?_
    refine ex_then_exit ?_
    obtain rfl := Option.some.inj h
    have h := go_brk hk4
    refine ex_block_exit ?_
    refine ex_seq ?_
    refine cw_seq ?_
    refine cw_region ?_
    refine wl_u rfl (ow_y (yh_assign rfl rfl) rfl rfl (kk_wl ?_))
    refine wl_nil ?_
    refine ex_seq ?_
    refine cw_ret ?_
    obtain rfl := Option.some.inj h
    exact ex_r1 Tb rfl (.tmp rfl) (fun wq hq => ⟨_, rfl, hq.ext, rfl⟩)

def m_slices_Contains_string (N : Nat) (s_ : List Str) (v_ : Str) : Option (Bool) := (m_slices_Index_string N s_ v_).bind fun x7 => some (leb 0 x7)

set_option maxHeartbeats 4000000 in
theorem c_slices_Contains_string (N : Nat) (s_ : List Str) (v_ : Str) (res : Bool) (h : m_slices_Contains_string N s_ v_ = some res) (w : World) {a_s_ : Option Addr} {c_s_ : Nat} (h_s_ : strsL.rd w [] [.slice a_s_ s_.length c_s_] s_) : Ret Tryz.prog 98 [.slice a_s_ s_.length c_s_, .string v_] w [] fun v w' => v = .bool res := by
  have mh_s_ := rd_max h_s_
  unfold m_slices_Contains_string at h
  refine ret_enter Tryz.func98 rfl Tryz.ntmps98 rfl (Hp.refl w _) ?_
  refine cw_seq ?_
  refine cw_region ?_
  refine wl_u rfl (ow_y (yh_assign rfl rfl) rfl rfl (kk_wl ?_))
  refine wl_nil ?_
  refine ex_seq ?_
  refine cw_seq ?_
  refine cw_region ?_
  refine wl_u rfl (ow_y (yh_move rfl rfl) rfl rfl (kk_wl ?_))
  refine wl_u rfl (ow_y (yh_move rfl rfl) rfl rfl (kk_wl ?_))
  obtain ⟨x7, hx7, h⟩ := bd h
  refine wl_u rfl (ow_cV rfl hb125 rfl (fun w hw => c_slices_Index_string N _ _ _ hx7 w (Lay.at_ h_s_ hw)) rfl rfl (kk_wl ?_))
  refine wl_u rfl (ow_y (yh_cmpI rfl rfl rfl rfl) rfl rfl (kk_wl ?_))
  refine wl_u rfl (ow_y (yh_assign rfl rfl) rfl rfl (kk_wl ?_))
  refine wl_nil ?_
  refine ex_seq ?_
  refine cw_ret ?_
  obtain rfl := Option.some.inj h
  exact ex_r1 Tb rfl (.tmp rfl) (fun wq hq => ⟨_, rfl, hq.ext, rfl⟩)

def m_impl_StepValid (N : Nat) (s_ : Step) : Option (Bool) := (m_impl_NameValid N s_.name).bind fun x5 => (bif x5 then (bif leb ((s_.after.length : Nat) : Int) 4 then (m_impl_namesAscend N s_.after).bind fun x15 => (bif x15 then (m_slices_Contains_string N s_.after s_.name).bind fun x22 => some (!x22)
 else some false)
 else some false)
 else some false)

set_option maxHeartbeats 4000000 in
theorem c_impl_StepValid (N : Nat) (s_ : Step) (res : Bool) (h : m_impl_StepValid N s_ = some res) (w : World) {a_s__after : Option Addr} {c_s__after : Nat} (h_s__after : strsL.rd w [] [.slice a_s__after s_.after.length c_s__after] s_.after) : Ret Tryz.prog 71 [.agg #[.string s_.name, .slice a_s__after s_.after.length c_s__after, .bool s_.undo]] w [] fun v w' => v = .bool res := by
  have mh_s__after := rd_max h_s__after
  unfold m_impl_StepValid at h
  refine ret_enter Tryz.func71 rfl Tryz.ntmps71 rfl (Hp.refl w _) ?_
  refine cw_seq ?_
  refine cw_region ?_
  refine wl_u rfl (ow_boxA rfl rfl rfl rfl (fun g1 => kk_wl ?_))
  refine wl_u rfl (ow_y (yh_assign rfl rfl) rfl rfl (kk_wl ?_))
  refine wl_nil ?_
  refine ex_seq ?_
  refine cw_seq ?_
  refine cw_region ?_
  refine wl_u rfl (ow_y (yh_field Tb rfl rfl rfl) rfl rfl (kk_wl ?_))
  refine wl_u rfl (ow_y (yh_loadB Tb (k := 0) rfl rfl rfl rfl rfl) rfl rfl (kk_wl ?_))
  obtain ⟨x5, hx5, h⟩ := bd h
  refine wl_u rfl (ow_cV rfl hb103 rfl (fun w hw => c_impl_NameValid N _ _ hx5 w) rfl rfl (kk_wl ?_))
  refine wl_u rfl (ow_y (yh_move rfl rfl) rfl rfl (kk_wl ?_))
  refine wl_s rfl rfl (fun c1 => ?_) (fun c1 => ?_)
  · skip
    replace h := bt c1 h
    refine wl_g rfl rfl (ow_y (yh_field Tb rfl rfl rfl) rfl rfl (kk_wl ?_))
    refine wl_g rfl rfl (ow_y (yh_loadB Tb (k := 0) rfl rfl rfl rfl rfl) rfl rfl (kk_wl ?_))
    refine wl_g rfl rfl (ow_y (yh_lenS Tb rfl rfl rfl rfl) rfl rfl (kk_wl ?_))
    refine wl_g rfl rfl (ow_y (yh_cmpI rfl rfl rfl rfl) rfl rfl (kk_wl ?_))
    refine wl_u rfl (ow_y (yh_pickT rfl rfl rfl) rfl rfl (kk_wl ?_))
    refine wl_u rfl (ow_y (yh_move rfl rfl) rfl rfl (kk_wl ?_))
    refine wl_s rfl rfl (fun c2 => ?_) (fun c2 => ?_)
    · skip
      replace h := bt c2 h
      have q1 := leb_true.1 c2
      refine wl_g rfl rfl (ow_y (yh_field Tb rfl rfl rfl) rfl rfl (kk_wl ?_))
      refine wl_g rfl rfl (ow_y (yh_loadB Tb (k := 0) rfl rfl rfl rfl rfl) rfl rfl (kk_wl ?_))
      obtain ⟨x15, hx15, h⟩ := bd h
      refine wl_g rfl rfl (ow_cV rfl hb78 rfl (fun w hw => c_impl_namesAscend N _ _ hx15 w (Lay.at_ h_s__after hw)) rfl rfl (kk_wl ?_))
      refine wl_u rfl (ow_y (yh_pickT rfl rfl rfl) rfl rfl (kk_wl ?_))
      refine wl_u rfl (ow_y (yh_move rfl rfl) rfl rfl (kk_wl ?_))
      refine wl_s rfl rfl (fun c3 => ?_) (fun c3 => ?_)
      · skip
        replace h := bt c3 h
        refine wl_g rfl rfl (ow_y (yh_field Tb rfl rfl rfl) rfl rfl (kk_wl ?_))
        refine wl_g rfl rfl (ow_y (yh_loadB Tb (k := 0) rfl rfl rfl rfl rfl) rfl rfl (kk_wl ?_))
        refine wl_g rfl rfl (ow_y (yh_field Tb rfl rfl rfl) rfl rfl (kk_wl ?_))
        refine wl_g rfl rfl (ow_y (yh_loadB Tb (k := 0) rfl rfl rfl rfl rfl) rfl rfl (kk_wl ?_))
        obtain ⟨x22, hx22, h⟩ := bd h
        refine wl_g rfl rfl (ow_cV rfl hb98 rfl (fun w hw => c_slices_Contains_string N _ _ _ hx22 w (Lay.at_ h_s__after hw)) rfl rfl (kk_wl ?_))
        refine wl_g rfl rfl (ow_y (yh_not rfl rfl) rfl rfl (kk_wl ?_))
        refine wl_u rfl (ow_y (yh_pickT rfl rfl rfl) rfl rfl (kk_wl ?_))
        refine wl_u rfl (ow_y (yh_assign rfl rfl) rfl rfl (kk_wl ?_))
        refine wl_nil ?_
        refine ex_seq ?_
        refine cw_ret ?_
        obtain rfl := Option.some.inj h
        exact ex_r1 Tb rfl (.tmp rfl) (fun wq hq => ⟨_, rfl, hq.ext, rfl⟩)
      · skip
        replace h := bf c3 h
        refine wl_n rfl rfl rfl rfl ?_
        refine wl_n rfl rfl rfl rfl ?_
        refine wl_n rfl rfl rfl rfl ?_
        refine wl_n rfl rfl rfl rfl ?_
        refine wl_n rfl rfl rfl rfl ?_
        refine wl_n rfl rfl rfl rfl ?_
        refine wl_u rfl (ow_y (yh_pickF rfl rfl rfl) rfl rfl (kk_wl ?_))
        refine wl_u rfl (ow_y (yh_assign rfl rfl) rfl rfl (kk_wl ?_))
        refine wl_nil ?_
        refine ex_seq ?_
        refine cw_ret ?_
        obtain rfl := Option.some.inj h
        exact ex_r1 Tb rfl (.tmp rfl) (fun wq hq => ⟨_, rfl, hq.ext, rfl⟩)
    · skip
      replace h := bf c2 h
      have q2 := leb_false.1 c2
      refine wl_n rfl rfl rfl rfl ?_
      refine wl_n rfl rfl rfl rfl ?_
      refine wl_n rfl rfl rfl rfl ?_
      refine wl_u rfl (ow_y (yh_pickF rfl rfl rfl) rfl rfl (kk_wl ?_))
      refine wl_u rfl (ow_y (yh_move rfl rfl) rfl rfl (kk_wl ?_))
      refine wl_s rfl rfl nofun (fun _ => ?_)
      refine wl_n rfl rfl rfl rfl ?_
      refine wl_n rfl rfl rfl rfl ?_
      refine wl_n rfl rfl rfl rfl ?_
      refine wl_n rfl rfl rfl rfl ?_
      refine wl_n rfl rfl rfl rfl ?_
      refine wl_n rfl rfl rfl rfl ?_
      refine wl_u rfl (ow_y (yh_pickF rfl rfl rfl) rfl rfl (kk_wl ?_))
      refine wl_u rfl (ow_y (yh_assign rfl rfl) rfl rfl (kk_wl ?_))
      refine wl_nil ?_
      refine ex_seq ?_
      refine cw_ret ?_
      obtain rfl := Option.some.inj h
      exact ex_r1 Tb rfl (.tmp rfl) (fun wq hq => ⟨_, rfl, hq.ext, rfl⟩)
  · skip
    replace h := bf c1 h
    refine wl_n rfl rfl rfl rfl ?_
    refine wl_n rfl rfl rfl rfl ?_
    refine wl_n rfl rfl rfl rfl ?_
    refine wl_n rfl rfl rfl rfl ?_
    refine wl_u rfl (ow_y (yh_pickF rfl rfl rfl) rfl rfl (kk_wl ?_))
    refine wl_u rfl (ow_y (yh_move rfl rfl) rfl rfl (kk_wl ?_))
    refine wl_s rfl rfl nofun (fun _ => ?_)
    refine wl_n rfl rfl rfl rfl ?_
    refine wl_n rfl rfl rfl rfl ?_
    refine wl_n rfl rfl rfl rfl ?_
    refine wl_u rfl (ow_y (yh_pickF rfl rfl rfl) rfl rfl (kk_wl ?_))
    refine wl_u rfl (ow_y (yh_move rfl rfl) rfl rfl (kk_wl ?_))
    refine wl_s rfl rfl nofun (fun _ => ?_)
    refine wl_n rfl rfl rfl rfl ?_
    refine wl_n rfl rfl rfl rfl ?_
    refine wl_n rfl rfl rfl rfl ?_
    refine wl_n rfl rfl rfl rfl ?_
    refine wl_n rfl rfl rfl rfl ?_
    refine wl_n rfl rfl rfl rfl ?_
    refine wl_u rfl (ow_y (yh_pickF rfl rfl rfl) rfl rfl (kk_wl ?_))
    refine wl_u rfl (ow_y (yh_assign rfl rfl) rfl rfl (kk_wl ?_))
    refine wl_nil ?_
    refine ex_seq ?_
    refine cw_ret ?_
    obtain rfl := Option.some.inj h
    exact ex_r1 Tb rfl (.tmp rfl) (fun wq hq => ⟨_, rfl, hq.ext, rfl⟩)

def m_impl_NamesHave_L4 (N : Nat) (list_ : List Str) (names : List Str) : Nat → Nat → Option (Ex (Nat) (Bool))
  | 0, _ => none
  | n + 1, s9 => (bif ltb ((s9 : Nat) : Int) ((names.length : Nat) : Int) then (names[s9]?).bind fun y11 => (m_slices_Contains_string N list_ y11).bind fun x15 => (bif !x15 then some (Ex.ret false)
 else m_impl_NamesHave_L4 N list_ names n (s9 + 1))
 else some (Ex.brk (s9)))

def m_impl_NamesHave (N : Nat) (list_ : List Str) (names : List Str) : Option (Bool) := (m_impl_NamesHave_L4 N list_ names N 0).bind fun e4 => e4.go (fun r => r) fun b4 => some true

set_option maxHeartbeats 4000000 in
theorem c_impl_NamesHave (N : Nat) (list_ : List Str) (names : List Str) (res : Bool) (h : m_impl_NamesHave N list_ names = some res) (w : World) {a_list_ a_names : Option Addr} {c_list_ c_names : Nat} (h_list_ : strsL.rd w [] [.slice a_list_ list_.length c_list_] list_) (h_names : strsL.rd w [] [.slice a_names names.length c_names] names) : Ret Tryz.prog 66 [.slice a_list_ list_.length c_list_, .slice a_names names.length c_names] w [] fun v w' => v = .bool res := by
  have mh_list_ := rd_max h_list_
  have mh_names := rd_max h_names
  unfold m_impl_NamesHave at h
  refine ret_enter Tryz.func66 rfl Tryz.ntmps66 rfl (Hp.refl w _) ?_
  refine cw_seq ?_
  refine cw_region ?_
  refine wl_u rfl (ow_y (yh_assign rfl rfl) rfl rfl (kk_wl ?_))
  refine wl_nil ?_
  refine ex_seq ?_
  refine cw_seq ?_
  refine cw_seq ?_
  refine cw_region ?_
  refine wl_u rfl (ow_y (yh_move rfl rfl) rfl rfl (kk_wl ?_))
  refine wl_u rfl (ow_y (yh_lenS Tb rfl rfl rfl rfl) rfl rfl (kk_wl ?_))
  refine wl_u rfl (ow_y (yh_move rfl rfl) rfl rfl (kk_wl ?_))
  refine wl_nil ?_
  refine ex_seq ?_
  refine cw_block ?_
  obtain ⟨e4, he4, hk4⟩ := bd h
  clear h
  refine cw_loopG (σ := Nat × Nat) (fun s => m_impl_NamesHave_L4 N list_ names s.1 s.2 = some e4) (fun s => [(0, .slice a_list_ list_.length c_list_), (7, .slice a_names names.length c_names), (8, .int .i64 ((names.length : Nat) : Int)), (9, .int .i64 ((s.2 : Nat) : Int))]) (fun s => []) (fun s => s.1) (N, 0) [] he4 ⟨rfl, rfl, rfl, rfl, trivial⟩ rfl (fun KL s he4 hn4 => ?_)
  obtain ⟨n4, s9⟩ := s
  simp only at he4 hn4 ⊢
  rcases n4 with _ | n4
  · exact nosome he4
  have h := he4; rw [m_impl_NamesHave_L4] at h
  refine cw_seq ?_
  refine cw_region ?_
  refine wl_u rfl (ow_y (yh_cmpI rfl rfl rfl rfl) rfl rfl (kk_wl ?_))
  refine wl_nil ?_
  refine ex_seq ?_
  refine cw_seq ?_
  refine cw_split rfl (fun c1 => ?_) (fun c1 => ?_)
  · skip
    replace h := bt c1 h
    have q1 := ltb_true.1 c1
    refine cw_skip ?_
    refine ex_seq ?_
    refine cw_seq ?_
    refine cw_block ?_
    refine cw_seq ?_
    refine cw_region ?_
    obtain ⟨y11, hy11, h⟩ := bd h
    obtain ⟨b11, o11, ha11⟩ := sl_addr h_names hy11
    subst ha11
    have hc11 := get_str h_names hy11
    refine wl_u rfl (ow_y (yh_idx Tb (k := s9) rfl rfl rfl rfl (get_lt hy11) rfl rfl) rfl rfl (kk_wl ?_))
    refine wl_u rfl (ow_y (yh_loadA0 Tb rfl rfl rfl hc11 rfl) rfl rfl (kk_wl ?_))
    refine wl_u rfl (ow_y (yh_assign rfl rfl) rfl rfl (kk_wl ?_))
    refine wl_nil ?_
    refine ex_seq ?_
    refine cw_seq ?_
    refine cw_region ?_
    refine wl_u rfl (ow_y (yh_move rfl rfl) rfl rfl (kk_wl ?_))
    refine wl_u rfl (ow_y (yh_move rfl rfl) rfl rfl (kk_wl ?_))
    obtain ⟨x15, hx15, h⟩ := bd h
    refine wl_u rfl (ow_cV rfl hb98 rfl (fun w hw => c_slices_Contains_string N _ _ _ hx15 w (Lay.at_ h_list_ hw)) rfl rfl (kk_wl ?_))
    refine wl_u rfl (ow_y (yh_not rfl rfl) rfl rfl (kk_wl ?_))
    refine wl_nil ?_
    refine ex_seq ?_
    refine cw_split rfl (fun c2 => ?_) (fun c2 => ?_)
    · skip
      replace h := bt c2 h
      refine cw_seq ?_
      refine cw_region ?_
      refine wl_u rfl (ow_y (yh_assign rfl rfl) rfl rfl (kk_wl ?_))
      refine wl_nil ?_
      refine ex_seq ?_
      refine cw_ret ?_
      refine ex_block_ret ?_
      refine ex_then_ret ?_
      refine ex_then_ret ?_
      refine ex_block_ret ?_
      refine ex_then_ret ?_
      obtain rfl := Option.some.inj h
      obtain rfl := go_ret hk4
      exact ex_r1 Tb rfl (.tmp rfl) (fun wq hq => ⟨_, rfl, hq.ext, rfl⟩)
    · skip
      replace h := bf c2 h
      refine cw_skip ?_
      refine ex_block_normal ?_
      refine ex_seq ?_
      refine cw_region ?_
      refine wl_u rfl (ow_y (yh_arI rfl rfl rfl rfl (by omega)) rfl rfl (kk_wl ?_))
      refine wl_u rfl (ow_y (yh_move rfl rfl) rfl rfl (kk_wl ?_))
      refine wl_nil ?_
      exact ex_next [] (hn4 (n4, s9 + 1) (Nat.lt_succ_self _) h) ⟨rfl, rfl, rfl, rfl, trivial⟩ (by kernel_rfl)
  · skip
    replace h := bf c1 h
    have q2 := ltb_false.1 c1
    refine cw_exit ?_
    refine ex_then_exit ?_
    refine ex_then_exit ?_
    obtain rfl := Option.some.inj h
    have h := go_brk hk4
    refine ex_block_exit ?_
    refine ex_seq ?_
    refine cw_seq ?_
    refine cw_region ?_
    refine wl_u rfl (ow_y (yh_assign rfl rfl) rfl rfl (kk_wl ?_))
    refine wl_nil ?_
    refine ex_seq ?_
    refine cw_ret ?_
    obtain rfl := Option.some.inj h
    exact ex_r1 Tb rfl (.tmp rfl) (fun wq hq => ⟨_, rfl, hq.ext, rfl⟩)

def m_impl_Flow_ready_L5 (N : Nat) (f : Flow) (done : List Str) : Nat → (List Str) → Nat → Option (Ex (List Str × Nat) (List Str))
  | 0, _, _ => none
  | n + 1, s5, s11 => (bif ltb ((s11 : Nat) : Int) ((f.steps.length : Nat) : Int) then (f.steps[s11]?).bind fun y13 => (m_slices_Contains_string N done y13.name).bind fun x18 => (bif !x18 then (m_impl_NamesHave N done y13.after).bind fun x24 => (bif x24 then (appd s5 ([y13.name] : List Str)).bind fun l30 => m_impl_Flow_ready_L5 N f done n (s5 ++ ([y13.name] : List Str)) (s11 + 1)
 else m_impl_Flow_ready_L5 N f done n s5 (s11 + 1))
 else m_impl_Flow_ready_L5 N f done n s5 (s11 + 1))
 else some (Ex.brk (s5, s11)))

def m_impl_Flow_ready (N : Nat) (f : Flow) (done : List Str) : Option (List Str) := (m_impl_Flow_ready_L5 N f done N ([] : List Str) 0).bind fun e5 => e5.go (fun r => r) fun b5 => some b5.1

set_option maxHeartbeats 4000000 in
theorem c_impl_Flow_ready (N : Nat) (f : Flow) (done : List Str) (res : List Str) (h : m_impl_Flow_ready N f done = some res) (w : World) {a_done a_f_steps : Option Addr} {c_done c_f_steps : Nat} (h_f_steps : stepsL.rd w [] [.slice a_f_steps f.steps.length c_f_steps] f.steps) (h_done : strsL.rd w [] [.slice a_done done.length c_done] done) : Ret Tryz.prog 82 [.agg #[.int .i64 f.ver, .slice a_f_steps f.steps.length c_f_steps], .slice a_done done.length c_done] w [] fun v w' => ∃ a1 c1 F1, v = .slice a1 res.length c1 ∧ NewC w w' [owC strsL F1 [.slice a1 res.length c1] res] := by
  have mh_f_steps := rd_max h_f_steps
  have mh_done := rd_max h_done
  unfold m_impl_Flow_ready at h
  refine ret_enter Tryz.func82 rfl Tryz.ntmps82 rfl (Hp.refl w _) ?_
  refine cw_seq ?_
  refine cw_region ?_
  refine wl_u rfl (ow_boxA rfl rfl rfl rfl (fun g2 => kk_wl ?_))
  refine wl_u rfl (ow_y (yh_assign rfl rfl) rfl rfl (kk_wl ?_))
  refine wl_nil ?_
  refine ex_seq ?_
  refine cw_seq ?_
  refine cw_region ?_
  refine wl_u rfl (ow_y (yh_assign rfl rfl) rfl rfl (kk_wl ?_))
  refine wl_nil ?_
  refine ex_seq ?_
  refine cw_seq ?_
  refine cw_seq ?_
  refine cw_region ?_
  refine wl_u rfl (ow_y (yh_field Tb rfl rfl rfl) rfl rfl (kk_wl ?_))
  refine wl_u rfl (ow_y (yh_loadB Tb (k := 0) rfl rfl rfl rfl rfl) rfl rfl (kk_wl ?_))
  refine wl_u rfl (ow_y (yh_lenS Tb rfl rfl rfl rfl) rfl rfl (kk_wl ?_))
  refine wl_u rfl (ow_y (yh_move rfl rfl) rfl rfl (kk_wl ?_))
  refine wl_nil ?_
  refine ex_seq ?_
  refine cw_block ?_
  obtain ⟨e5, he5, hk5⟩ := bd h
  clear h
  refine cw_nilS strsL rfl ?_
  refine cw_loopG (σ := Nat × (List Str) × Nat × (Option Addr) × Nat × (List Nat)) (fun s => m_impl_Flow_ready_L5 N f done s.1 s.2.1 s.2.2.1 = some e5) (fun s => [(1, .slice a_done done.length c_done), (5, .slice s.2.2.2.1 s.2.1.length s.2.2.2.2.1), (9, .slice a_f_steps f.steps.length c_f_steps), (10, .int .i64 ((f.steps.length : Nat) : Int)), (11, .int .i64 ((s.2.2.1 : Nat) : Int))]) (fun s => [owC strsL s.2.2.2.2.2 [.slice s.2.2.2.1 s.2.1.length s.2.2.2.2.1] s.2.1]) (fun s => s.1) (N, ([] : List Str), 0, none, 0, []) [0] he5 ⟨rfl, rfl, rfl, rfl, rfl, trivial⟩ rfl (fun KL s he5 hn5 => ?_)
  obtain ⟨n5, s5, s11, as5, cs5, Fs5⟩ := s
  simp only at he5 hn5 ⊢
  rcases n5 with _ | n5
  · exact nosome he5
  have h := he5; rw [m_impl_Flow_ready_L5] at h
  refine cw_seq ?_
  refine cw_region ?_
  refine wl_u rfl (ow_y (yh_cmpI rfl rfl rfl rfl) rfl rfl (kk_wl ?_))
  refine wl_nil ?_
  refine ex_seq ?_
  refine cw_seq ?_
  refine cw_split rfl (fun c1 => ?_) (fun c1 => ?_)
  · skip
    replace h := bt c1 h
    have q1 := ltb_true.1 c1
    refine cw_skip ?_
    refine ex_seq ?_
    refine cw_seq ?_
    refine cw_block ?_
    refine cw_seq ?_
    refine cw_region ?_
    obtain ⟨y13, hy13, h⟩ := bd h
    obtain ⟨b13, o13, ha13⟩ := sl_addr h_f_steps hy13
    subst ha13
    obtain ⟨a13, e13, hc13, hf13⟩ := get_step h_f_steps hy13
    have mx13 := rd_max hf13
    refine wl_u rfl (ow_y (yh_idx Tb (k := s11) rfl rfl rfl rfl (get_lt hy13) rfl rfl) rfl rfl (kk_wl ?_))
    refine wl_u rfl (ow_y (yh_loadAN Tb rfl rfl rfl rfl hc13 rfl) rfl rfl (kk_wl ?_))
    refine wl_u rfl (ow_allocA Tb rfl rfl rfl rfl (fun g7 => kk_wl ?_))
    refine wl_u rfl (ow_storeA Tb (k := 0) rfl rfl rfl rfl rfl rfl rfl rfl rfl (kk_wl ?_))
    refine wl_nil ?_
    refine ex_seq ?_
    refine cw_seq ?_
    refine cw_region ?_
    refine wl_u rfl (ow_y (yh_move rfl rfl) rfl rfl (kk_wl ?_))
    refine wl_u rfl (ow_y (yh_field Tb rfl rfl rfl) rfl rfl (kk_wl ?_))
    refine wl_u rfl (ow_y (yh_loadB Tb (k := 0) rfl rfl rfl rfl rfl) rfl rfl (kk_wl ?_))
    obtain ⟨x18, hx18, h⟩ := bd h
    refine wl_u rfl (ow_cV rfl hb98 rfl (fun w hw => c_slices_Contains_string N _ _ _ hx18 w (Lay.at_ h_done hw)) rfl rfl (kk_wl ?_))
    refine wl_u rfl (ow_y (yh_not rfl rfl) rfl rfl (kk_wl ?_))
    refine wl_u rfl (ow_y (yh_move rfl rfl) rfl rfl (kk_wl ?_))
    refine wl_s rfl rfl (fun c2 => ?_) (fun c2 => ?_)
    · skip
      replace h := bt c2 h
      refine wl_g rfl rfl (ow_y (yh_move rfl rfl) rfl rfl (kk_wl ?_))
      refine wl_g rfl rfl (ow_y (yh_field Tb rfl rfl rfl) rfl rfl (kk_wl ?_))
      refine wl_g rfl rfl (ow_y (yh_loadB Tb (k := 0) rfl rfl rfl rfl rfl) rfl rfl (kk_wl ?_))
      obtain ⟨x24, hx24, h⟩ := bd h
      refine wl_g rfl rfl (ow_cV rfl hb66 rfl (fun w hw => c_impl_NamesHave N _ _ _ hx24 w (Lay.at_ h_done hw) (Lay.at_ hf13 hw)) rfl rfl (kk_wl ?_))
      refine wl_u rfl (ow_y (yh_pickT rfl rfl rfl) rfl rfl (kk_wl ?_))
      refine wl_nil ?_
      refine ex_seq ?_
      refine cw_split rfl (fun c3 => ?_) (fun c3 => ?_)
      · skip
        replace h := bt c3 h
        refine cw_region ?_
        refine wl_u rfl (ow_y (yh_move rfl rfl) rfl rfl (kk_wl ?_))
        refine wl_u rfl (ow_y (yh_field Tb rfl rfl rfl) rfl rfl (kk_wl ?_))
        refine wl_u rfl (ow_y (yh_loadB Tb (k := 0) rfl rfl rfl rfl rfl) rfl rfl (kk_wl ?_))
        refine wl_u rfl (ow_lit1 Tb rfl rfl rfl rfl rfl rfl rfl rfl rfl rfl (fun g29 => kk_chg (c' := owC strsL [g29] [.slice (some ⟨g29, 0, none⟩) 1 1] ([y13.name] : List Str)) 0 rfl (fun w hA => own_strsL ([y13.name] : List Str) hA rfl (by simp [maxLen])) rfl (kk_wl ?_)))
        obtain ⟨hll30, h⟩ := bd_appd h
        refine wl_u rfl (ow_appP Tb (i := 2) rfl rfl rfl rfl rfl (fun w hw => rdo (A := strsL) 0 rfl hw) rfl rfl rfl rfl hll30 (by decide) rfl rfl (fun a30 c30 F30 => kk_wl ?_))
        refine wl_u rfl (ow_y (yh_assign rfl rfl) rfl rfl (kk_wl ?_))
        refine wl_nil ?_
        refine ex_block_normal ?_
        refine ex_seq ?_
        refine cw_region ?_
        refine wl_u rfl (ow_y (yh_arI rfl rfl rfl rfl (by omega)) rfl rfl (kk_wl ?_))
        refine wl_u rfl (ow_y (yh_move rfl rfl) rfl rfl (kk_wl ?_))
        refine wl_nil ?_
        exact ex_next [0] (hn5 (n5, (s5 ++ ([y13.name] : List Str)), s11 + 1, a30, c30, F30) (Nat.lt_succ_self _) h) ⟨rfl, rfl, rfl, rfl, rfl, trivial⟩ (by kernel_rfl)
      · skip
        replace h := bf c3 h
        refine cw_skip ?_
        refine ex_block_normal ?_
        refine ex_seq ?_
        refine cw_region ?_
        refine wl_u rfl (ow_y (yh_arI rfl rfl rfl rfl (by omega)) rfl rfl (kk_wl ?_))
        refine wl_u rfl (ow_y (yh_move rfl rfl) rfl rfl (kk_wl ?_))
        refine wl_nil ?_
        exact ex_next [1] (hn5 (n5, s5, s11 + 1, as5, cs5, Fs5) (Nat.lt_succ_self _) h) ⟨rfl, rfl, rfl, rfl, rfl, trivial⟩ (by kernel_rfl)
    · skip
      replace h := bf c2 h
      refine wl_n rfl rfl rfl rfl ?_
      refine wl_n rfl rfl rfl rfl ?_
      refine wl_n rfl rfl rfl rfl ?_
      refine wl_n rfl rfl rfl rfl ?_
      refine wl_u rfl (ow_y (yh_pickF rfl rfl rfl) rfl rfl (kk_wl ?_))
      refine wl_nil ?_
      refine ex_seq ?_
      refine cw_false rfl ?_
      refine cw_skip ?_
      refine ex_block_normal ?_
      refine ex_seq ?_
      refine cw_region ?_
      refine wl_u rfl (ow_y (yh_arI rfl rfl rfl rfl (by omega)) rfl rfl (kk_wl ?_))
      refine wl_u rfl (ow_y (yh_move rfl rfl) rfl rfl (kk_wl ?_))
      refine wl_nil ?_
      exact ex_next [1] (hn5 (n5, s5, s11 + 1, as5, cs5, Fs5) (Nat.lt_succ_self _) h) ⟨rfl, rfl, rfl, rfl, rfl, trivial⟩ (by kernel_rfl)
  · skip
    replace h := bf c1 h
    have q2 := ltb_false.1 c1
    refine cw_exit ?_
    refine ex_then_exit ?_
    refine ex_then_exit ?_
    obtain rfl := Option.some.inj h
    have h := go_brk hk5
    refine ex_block_exit ?_
    refine ex_seq ?_
    refine cw_seq ?_
    refine cw_region ?_
    refine wl_u rfl (ow_y (yh_move rfl rfl) rfl rfl (kk_wl ?_))
    refine wl_u rfl (ow_y (yh_assign rfl rfl) rfl rfl (kk_wl ?_))
    refine wl_nil ?_
    refine ex_seq ?_
    refine cw_ret ?_
    obtain rfl := Option.some.inj h
    exact ex_r1 Tb rfl (.tmp rfl) (fun wq hq => ⟨_, rfl, hq.ext, ⟨as5, cs5, Fs5, rfl, NewC.sel [0] hq rfl⟩⟩)

def m_impl_Flow_order_L3 (N : Nat) (f : Flow) : Nat → (List Str) → Option (Ex (List Str) (List Str))
  | 0, _ => none
  | n + 1, s3 => (m_impl_Flow_ready N f s3).bind fun x7 => (bif eqb ((x7.length : Nat) : Int) 0 then some (Ex.ret s3)
 else (x7[0]?).bind fun y14 => (appd s3 ([y14] : List Str)).bind fun l17 => m_impl_Flow_order_L3 N f n (s3 ++ ([y14] : List Str)))

def m_impl_Flow_order (N : Nat) (f : Flow) : Option (List Str) := (m_impl_Flow_order_L3 N f N ([] : List Str)).bind fun e3 => e3.go (fun r => r) fun b3 => none

set_option maxHeartbeats 4000000 in
theorem c_impl_Flow_order (N : Nat) (f : Flow) (res : List Str) (h : m_impl_Flow_order N f = some res) (w : World) {a_f_steps : Option Addr} {c_f_steps : Nat} (h_f_steps : stepsL.rd w [] [.slice a_f_steps f.steps.length c_f_steps] f.steps) : Ret Tryz.prog 40 [.agg #[.int .i64 f.ver, .slice a_f_steps f.steps.length c_f_steps]] w [] fun v w' => ∃ a1 c1 F1, v = .slice a1 res.length c1 ∧ NewC w w' [owC strsL F1 [.slice a1 res.length c1] res] := by
  have mh_f_steps := rd_max h_f_steps
  unfold m_impl_Flow_order at h
  refine ret_enter Tryz.func40 rfl Tryz.ntmps40 rfl (Hp.refl w _) ?_
  refine cw_seq ?_
  refine cw_region ?_
  refine wl_u rfl (ow_boxA rfl rfl rfl rfl (fun g1 => kk_wl ?_))
  refine wl_u rfl (ow_y (yh_assign rfl rfl) rfl rfl (kk_wl ?_))
  refine wl_nil ?_
  refine ex_seq ?_
  refine cw_seq ?_
  refine cw_region ?_
  refine wl_u rfl (ow_y (yh_assign rfl rfl) rfl rfl (kk_wl ?_))
  refine wl_nil ?_
  refine ex_seq ?_
  refine cw_block ?_
  obtain ⟨e3, he3, hk3⟩ := bd h
  clear h
  refine cw_nilS strsL rfl ?_
  refine cw_loopG (σ := Nat × (List Str) × (Option Addr) × Nat × (List Nat)) (fun s => m_impl_Flow_order_L3 N f s.1 s.2.1 = some e3) (fun s => [(1, .pointer (some ⟨g1, 0, none⟩)), (3, .slice s.2.2.1 s.2.1.length s.2.2.2.1)]) (fun s => [blkC g1 25 [.int .i64 f.ver, .slice a_f_steps f.steps.length c_f_steps], owC strsL s.2.2.2.2 [.slice s.2.2.1 s.2.1.length s.2.2.2.1] s.2.1]) (fun s => s.1) (N, ([] : List Str), none, 0, []) [1, 0] he3 ⟨rfl, rfl, trivial⟩ rfl (fun KL s he3 hn3 => ?_)
  obtain ⟨n3, s3, as3, cs3, Fs3⟩ := s
  simp only at he3 hn3 ⊢
  rcases n3 with _ | n3
  · exact nosome he3
  have h := he3; rw [m_impl_Flow_order_L3] at h
  refine cw_block ?_
  refine cw_seq ?_
  refine cw_region ?_
  refine wl_u rfl (ow_y (yh_loadBA Tb (k := 0) rfl rfl rfl rfl rfl rfl) rfl rfl (kk_wl ?_))
  refine wl_u rfl (ow_y (yh_move rfl rfl) rfl rfl (kk_wl ?_))
  obtain ⟨x7, hx7, h⟩ := bd h
  refine wl_u rfl (ow_cN1 rfl hb82 rfl (fun w hw => c_impl_Flow_ready N _ _ _ hx7 w (Lay.at_ h_f_steps hw) (rdo (A := strsL) 1 rfl hw)) rfl rfl (fun a7 c7 F7 => kk_wl ?_))
  refine wl_u rfl (ow_y (yh_assign rfl rfl) rfl rfl (kk_wl ?_))
  refine wl_nil ?_
  refine ex_seq ?_
  refine cw_seq ?_
  refine cw_seq ?_
  refine cw_region ?_
  refine wl_u rfl (ow_y (yh_move rfl rfl) rfl rfl (kk_wl ?_))
  refine wl_know (x7.length ≤ 9223372036854775807) (fun w hw => own_max 0 rfl hw) (fun mo9 => ?_)
  refine wl_u rfl (ow_y (yh_lenS Tb rfl rfl rfl rfl) rfl rfl (kk_wl ?_))
  refine wl_u rfl (ow_y (yh_cmpI rfl rfl rfl rfl) rfl rfl (kk_wl ?_))
  refine wl_nil ?_
  refine ex_seq ?_
  refine cw_split rfl (fun c1 => ?_) (fun c1 => ?_)
  · skip
    replace h := bt c1 h
    have q1 := eqb_true.1 c1
    refine cw_seq ?_
    refine cw_region ?_
    refine wl_u rfl (ow_y (yh_move rfl rfl) rfl rfl (kk_wl ?_))
    refine wl_u rfl (ow_y (yh_assign rfl rfl) rfl rfl (kk_wl ?_))
    refine wl_nil ?_
    refine ex_seq ?_
    refine cw_ret ?_
    refine ex_then_ret ?_
    refine ex_block_ret ?_
    refine ex_then_ret ?_
    refine ex_block_ret ?_
    obtain rfl := Option.some.inj h
    obtain rfl := go_ret hk3
    exact ex_r1 Tb rfl (.tmp rfl) (fun wq hq => ⟨_, rfl, hq.ext, ⟨as3, cs3, Fs3, rfl, NewC.sel [2] hq rfl⟩⟩)
  · skip
    replace h := bf c1 h
    have q2 := eqb_false.1 c1
    refine cw_skip ?_
    refine ex_seq ?_
    refine cw_region ?_
    refine wl_u rfl (ow_y (yh_move rfl rfl) rfl rfl (kk_wl ?_))
    refine wl_u rfl (ow_y (yh_move rfl rfl) rfl rfl (kk_wl ?_))
    obtain ⟨y14, hy14, h⟩ := bd h
    refine wl_ex (fun g => a7 = some ⟨g, 0, none⟩) (fun w hw => by exact own_addrK 0 rfl hy14 hw) (fun g14 hg14 => ?_)
    subst hg14
    refine wl_u rfl (ow_y (yh_idx Tb (k := 0) rfl rfl rfl rfl (get_lt hy14) rfl rfl) rfl rfl (kk_wl ?_))
    refine wl_u rfl (ow_y (yh_loadO0 Tb 0 rfl rfl rfl rfl rfl hy14 rfl) rfl rfl (kk_wl ?_))
    refine wl_u rfl (ow_lit1 Tb rfl rfl rfl rfl rfl rfl rfl rfl rfl rfl (fun g16 => kk_chg (c' := owC strsL [g16] [.slice (some ⟨g16, 0, none⟩) 1 1] ([y14] : List Str)) 0 rfl (fun w hA => own_strsL ([y14] : List Str) hA rfl (by simp [maxLen])) rfl (kk_wl ?_)))
    obtain ⟨hll17, h⟩ := bd_appd h
    refine wl_u rfl (ow_appP Tb (i := 3) rfl rfl rfl rfl rfl (fun w hw => rdo (A := strsL) 0 rfl hw) rfl rfl rfl rfl hll17 (by decide) rfl rfl (fun a17 c17 F17 => kk_wl ?_))
    refine wl_u rfl (ow_y (yh_assign rfl rfl) rfl rfl (kk_wl ?_))
    refine wl_nil ?_
    refine ex_block_normal ?_
    exact ex_next [3, 0] (hn3 (n3, (s3 ++ ([y14] : List Str)), a17, c17, F17) (Nat.lt_succ_self _) h) ⟨rfl, rfl, trivial⟩ (by kernel_rfl)

def m_impl_FlowValid_L12 (N : Nat) (f : Flow) : Nat → Nat → Option (Ex (Nat) (Bool))
  | 0, _ => none
  | n + 1, s34 => (bif ltb ((s34 : Nat) : Int) ((f.steps.length : Nat) : Int) then (f.steps[s34]?).bind fun y36 => (m_impl_StepValid N y36).bind fun x39 => (bif !x39 then some (Ex.ret false)
 else (m_impl_Flow_names N f).bind fun x43 => (m_impl_NamesHave N x43 y36.after).bind fun x46 => (bif !x46 then some (Ex.ret false)
 else m_impl_FlowValid_L12 N f n (s34 + 1)))
 else some (Ex.brk (s34)))

def m_impl_FlowValid (N : Nat) (f : Flow) : Option (Bool) := (bif ltb f.ver 1 then some false
 else (bif ltb 99 f.ver then some false
 else (bif ltb ((f.steps.length : Nat) : Int) 1 then some false
 else (bif ltb 8 ((f.steps.length : Nat) : Int) then some false
 else (m_impl_Flow_names N f).bind fun x27 => (m_impl_namesAscend N x27).bind fun x28 => (bif !x28 then some false
 else (m_impl_FlowValid_L12 N f N 0).bind fun e12 => e12.go (fun r => r) fun b12 => (m_impl_Flow_order N f).bind fun x51 => some (eqb ((x51.length : Nat) : Int) ((f.steps.length : Nat) : Int)))))))

set_option maxHeartbeats 4000000 in
theorem c_impl_FlowValid (N : Nat) (f : Flow) (res : Bool) (h : m_impl_FlowValid N f = some res) (w : World) {a_f_steps : Option Addr} {c_f_steps : Nat} (h_f_steps : stepsL.rd w [] [.slice a_f_steps f.steps.length c_f_steps] f.steps) : Ret Tryz.prog 32 [.agg #[.int .i64 f.ver, .slice a_f_steps f.steps.length c_f_steps]] w [] fun v w' => v = .bool res := by
  have mh_f_steps := rd_max h_f_steps
  unfold m_impl_FlowValid at h
  refine ret_enter Tryz.func32 rfl Tryz.ntmps32 rfl (Hp.refl w _) ?_
  refine cw_seq ?_
  refine cw_region ?_
  refine wl_u rfl (ow_boxA rfl rfl rfl rfl (fun g1 => kk_wl ?_))
  refine wl_u rfl (ow_y (yh_assign rfl rfl) rfl rfl (kk_wl ?_))
  refine wl_nil ?_
  refine ex_seq ?_
  refine cw_seq ?_
  refine cw_seq ?_
  refine cw_region ?_
  refine wl_u rfl (ow_y (yh_field Tb rfl rfl rfl) rfl rfl (kk_wl ?_))
  refine wl_u rfl (ow_y (yh_loadB Tb (k := 0) rfl rfl rfl rfl rfl) rfl rfl (kk_wl ?_))
  refine wl_u rfl (ow_y (yh_cmpI rfl rfl rfl rfl) rfl rfl (kk_wl ?_))
  refine wl_u rfl (ow_y (yh_move rfl rfl) rfl rfl (kk_wl ?_))
  refine wl_s rfl rfl (fun c1 => ?_) (fun c1 => ?_)
  · skip
    replace h := bt c1 h
    have q1 := ltb_true.1 c1
    refine wl_n rfl rfl rfl rfl ?_
    refine wl_n rfl rfl rfl rfl ?_
    refine wl_n rfl rfl rfl rfl ?_
    refine wl_u rfl (ow_y (yh_pickT rfl rfl rfl) rfl rfl (kk_wl ?_))
    refine wl_u rfl (ow_y (yh_move rfl rfl) rfl rfl (kk_wl ?_))
    refine wl_s rfl rfl (fun _ => ?_) nofun
    refine wl_n rfl rfl rfl rfl ?_
    refine wl_n rfl rfl rfl rfl ?_
    refine wl_n rfl rfl rfl rfl ?_
    refine wl_n rfl rfl rfl rfl ?_
    refine wl_u rfl (ow_y (yh_pickT rfl rfl rfl) rfl rfl (kk_wl ?_))
    refine wl_u rfl (ow_y (yh_move rfl rfl) rfl rfl (kk_wl ?_))
    refine wl_s rfl rfl (fun _ => ?_) nofun
    refine wl_n rfl rfl rfl rfl ?_
    refine wl_n rfl rfl rfl rfl ?_
    refine wl_n rfl rfl rfl rfl ?_
    refine wl_n rfl rfl rfl rfl ?_
    refine wl_u rfl (ow_y (yh_pickT rfl rfl rfl) rfl rfl (kk_wl ?_))
    refine wl_u rfl (ow_y (yh_move rfl rfl) rfl rfl (kk_wl ?_))
    refine wl_s rfl rfl (fun _ => ?_) nofun
    refine wl_n rfl rfl rfl rfl ?_
    refine wl_n rfl rfl rfl rfl ?_
    refine wl_n rfl rfl rfl rfl ?_
    refine wl_n rfl rfl rfl rfl ?_
    refine wl_u rfl (ow_y (yh_pickT rfl rfl rfl) rfl rfl (kk_wl ?_))
    refine wl_nil ?_
    refine ex_seq ?_
    refine cw_true rfl ?_
    refine cw_seq ?_
    refine cw_region ?_
    refine wl_u rfl (ow_y (yh_assign rfl rfl) rfl rfl (kk_wl ?_))
    refine wl_nil ?_
    refine ex_seq ?_
    refine cw_ret ?_
    refine ex_then_ret ?_
    obtain rfl := Option.some.inj h
    exact ex_r1 Tb rfl (.tmp rfl) (fun wq hq => ⟨_, rfl, hq.ext, rfl⟩)
  · skip
    replace h := bf c1 h
    have q2 := ltb_false.1 c1
    refine wl_g rfl rfl (ow_y (yh_field Tb rfl rfl rfl) rfl rfl (kk_wl ?_))
    refine wl_g rfl rfl (ow_y (yh_loadB Tb (k := 0) rfl rfl rfl rfl rfl) rfl rfl (kk_wl ?_))
    refine wl_g rfl rfl (ow_y (yh_cmpI rfl rfl rfl rfl) rfl rfl (kk_wl ?_))
    refine wl_u rfl (ow_y (yh_pickF rfl rfl rfl) rfl rfl (kk_wl ?_))
    refine wl_u rfl (ow_y (yh_move rfl rfl) rfl rfl (kk_wl ?_))
    refine wl_s rfl rfl (fun c2 => ?_) (fun c2 => ?_)
    · skip
      replace h := bt c2 h
      have q3 := ltb_true.1 c2
      refine wl_n rfl rfl rfl rfl ?_
      refine wl_n rfl rfl rfl rfl ?_
      refine wl_n rfl rfl rfl rfl ?_
      refine wl_n rfl rfl rfl rfl ?_
      refine wl_u rfl (ow_y (yh_pickT rfl rfl rfl) rfl rfl (kk_wl ?_))
      refine wl_u rfl (ow_y (yh_move rfl rfl) rfl rfl (kk_wl ?_))
      refine wl_s rfl rfl (fun _ => ?_) nofun
      refine wl_n rfl rfl rfl rfl ?_
      refine wl_n rfl rfl rfl rfl ?_
      refine wl_n rfl rfl rfl rfl ?_
      refine wl_n rfl rfl rfl rfl ?_
      refine wl_u rfl (ow_y (yh_pickT rfl rfl rfl) rfl rfl (kk_wl ?_))
      refine wl_u rfl (ow_y (yh_move rfl rfl) rfl rfl (kk_wl ?_))
      refine wl_s rfl rfl (fun _ => ?_) nofun
      refine wl_n rfl rfl rfl rfl ?_
      refine wl_n rfl rfl rfl rfl ?_
      refine wl_n rfl rfl rfl rfl ?_
      refine wl_n rfl rfl rfl rfl ?_
      refine wl_u rfl (ow_y (yh_pickT rfl rfl rfl) rfl rfl (kk_wl ?_))
      refine wl_nil ?_
      refine ex_seq ?_
      refine cw_true rfl ?_
      refine cw_seq ?_
      refine cw_region ?_
      refine wl_u rfl (ow_y (yh_assign rfl rfl) rfl rfl (kk_wl ?_))
      refine wl_nil ?_
      refine ex_seq ?_
      refine cw_ret ?_
      refine ex_then_ret ?_
      obtain rfl := Option.some.inj h
      exact ex_r1 Tb rfl (.tmp rfl) (fun wq hq => ⟨_, rfl, hq.ext, rfl⟩)
    · skip
      replace h := bf c2 h
      have q4 := ltb_false.1 c2
      refine wl_g rfl rfl (ow_y (yh_field Tb rfl rfl rfl) rfl rfl (kk_wl ?_))
      refine wl_g rfl rfl (ow_y (yh_loadB Tb (k := 0) rfl rfl rfl rfl rfl) rfl rfl (kk_wl ?_))
      refine wl_g rfl rfl (ow_y (yh_lenS Tb rfl rfl rfl rfl) rfl rfl (kk_wl ?_))
      refine wl_g rfl rfl (ow_y (yh_cmpI rfl rfl rfl rfl) rfl rfl (kk_wl ?_))
      refine wl_u rfl (ow_y (yh_pickF rfl rfl rfl) rfl rfl (kk_wl ?_))
      refine wl_u rfl (ow_y (yh_move rfl rfl) rfl rfl (kk_wl ?_))
      refine wl_s rfl rfl (fun c3 => ?_) (fun c3 => ?_)
      · skip
        replace h := bt c3 h
        have q5 := ltb_true.1 c3
        refine wl_n rfl rfl rfl rfl ?_
        refine wl_n rfl rfl rfl rfl ?_
        refine wl_n rfl rfl rfl rfl ?_
        refine wl_n rfl rfl rfl rfl ?_
        refine wl_u rfl (ow_y (yh_pickT rfl rfl rfl) rfl rfl (kk_wl ?_))
        refine wl_u rfl (ow_y (yh_move rfl rfl) rfl rfl (kk_wl ?_))
        refine wl_s rfl rfl (fun _ => ?_) nofun
        refine wl_n rfl rfl rfl rfl ?_
        refine wl_n rfl rfl rfl rfl ?_
        refine wl_n rfl rfl rfl rfl ?_
        refine wl_n rfl rfl rfl rfl ?_
        refine wl_u rfl (ow_y (yh_pickT rfl rfl rfl) rfl rfl (kk_wl ?_))
        refine wl_nil ?_
        refine ex_seq ?_
        refine cw_true rfl ?_
        refine cw_seq ?_
        refine cw_region ?_
        refine wl_u rfl (ow_y (yh_assign rfl rfl) rfl rfl (kk_wl ?_))
        refine wl_nil ?_
        refine ex_seq ?_
        refine cw_ret ?_
        refine ex_then_ret ?_
        obtain rfl := Option.some.inj h
        exact ex_r1 Tb rfl (.tmp rfl) (fun wq hq => ⟨_, rfl, hq.ext, rfl⟩)
      · skip
        replace h := bf c3 h
        have q6 := ltb_false.1 c3
        refine wl_g rfl rfl (ow_y (yh_field Tb rfl rfl rfl) rfl rfl (kk_wl ?_))
        refine wl_g rfl rfl (ow_y (yh_loadB Tb (k := 0) rfl rfl rfl rfl rfl) rfl rfl (kk_wl ?_))
        refine wl_g rfl rfl (ow_y (yh_lenS Tb rfl rfl rfl rfl) rfl rfl (kk_wl ?_))
        refine wl_g rfl rfl (ow_y (yh_cmpI rfl rfl rfl rfl) rfl rfl (kk_wl ?_))
        refine wl_u rfl (ow_y (yh_pickF rfl rfl rfl) rfl rfl (kk_wl ?_))
        refine wl_u rfl (ow_y (yh_move rfl rfl) rfl rfl (kk_wl ?_))
        refine wl_s rfl rfl (fun c4 => ?_) (fun c4 => ?_)
        · skip
          replace h := bt c4 h
          have q7 := ltb_true.1 c4
          refine wl_n rfl rfl rfl rfl ?_
          refine wl_n rfl rfl rfl rfl ?_
          refine wl_n rfl rfl rfl rfl ?_
          refine wl_n rfl rfl rfl rfl ?_
          refine wl_u rfl (ow_y (yh_pickT rfl rfl rfl) rfl rfl (kk_wl ?_))
          refine wl_nil ?_
          refine ex_seq ?_
          refine cw_true rfl ?_
          refine cw_seq ?_
          refine cw_region ?_
          refine wl_u rfl (ow_y (yh_assign rfl rfl) rfl rfl (kk_wl ?_))
          refine wl_nil ?_
          refine ex_seq ?_
          refine cw_ret ?_
          refine ex_then_ret ?_
          obtain rfl := Option.some.inj h
          exact ex_r1 Tb rfl (.tmp rfl) (fun wq hq => ⟨_, rfl, hq.ext, rfl⟩)
        · skip
          replace h := bf c4 h
          have q8 := ltb_false.1 c4
          refine wl_g rfl rfl (ow_y (yh_loadBA Tb (k := 0) rfl rfl rfl rfl rfl rfl) rfl rfl (kk_wl ?_))
          obtain ⟨x27, hx27, h⟩ := bd h
          refine wl_g rfl rfl (ow_cN1 rfl hb34 rfl (fun w hw => c_impl_Flow_names N _ _ hx27 w (Lay.at_ h_f_steps hw)) rfl rfl (fun a27 c27 F27 => kk_wl ?_))
          obtain ⟨x28, hx28, h⟩ := bd h
          refine wl_g rfl rfl (ow_cV rfl hb78 rfl (fun w hw => c_impl_namesAscend N _ _ hx28 w (rdo (A := strsL) 0 rfl hw)) rfl rfl (kk_wl ?_))
          refine wl_g rfl rfl (ow_y (yh_not rfl rfl) rfl rfl (kk_wl ?_))
          refine wl_u rfl (ow_y (yh_pickF rfl rfl rfl) rfl rfl (kk_wl ?_))
          refine wl_nil ?_
          refine ex_seq ?_
          refine cw_split rfl (fun c5 => ?_) (fun c5 => ?_)
          · skip
            replace h := bt c5 h
            refine cw_seq ?_
            refine cw_region ?_
            refine wl_u rfl (ow_y (yh_assign rfl rfl) rfl rfl (kk_wl ?_))
            refine wl_nil ?_
            refine ex_seq ?_
            refine cw_ret ?_
            refine ex_then_ret ?_
            obtain rfl := Option.some.inj h
            exact ex_r1 Tb rfl (.tmp rfl) (fun wq hq => ⟨_, rfl, hq.ext, rfl⟩)
          · skip
            replace h := bf c5 h
            refine cw_skip ?_
            refine ex_seq ?_
            refine cw_seq ?_
            refine cw_seq ?_
            refine cw_region ?_
            refine wl_u rfl (ow_y (yh_field Tb rfl rfl rfl) rfl rfl (kk_wl ?_))
            refine wl_u rfl (ow_y (yh_loadB Tb (k := 1) rfl rfl rfl rfl rfl) rfl rfl (kk_wl ?_))
            refine wl_u rfl (ow_y (yh_lenS Tb rfl rfl rfl rfl) rfl rfl (kk_wl ?_))
            refine wl_u rfl (ow_y (yh_move rfl rfl) rfl rfl (kk_wl ?_))
            refine wl_nil ?_
            refine ex_seq ?_
            refine cw_block ?_
            obtain ⟨e12, he12, hk12⟩ := bd h
            clear h
            refine cw_loopG (σ := Nat × Nat) (fun s => m_impl_FlowValid_L12 N f s.1 s.2 = some e12) (fun s => [(1, .pointer (some ⟨g1, 0, none⟩)), (32, .slice a_f_steps f.steps.length c_f_steps), (33, .int .i64 ((f.steps.length : Nat) : Int)), (34, .int .i64 ((s.2 : Nat) : Int))]) (fun s => [blkC g1 25 [.int .i64 f.ver, .slice a_f_steps f.steps.length c_f_steps]]) (fun s => s.1) (N, 0) [1] he12 ⟨rfl, rfl, rfl, rfl, trivial⟩ rfl (fun KL s he12 hn12 => ?_)
            obtain ⟨n12, s34⟩ := s
            simp only at he12 hn12 ⊢
            rcases n12 with _ | n12
            · exact nosome he12
            have h := he12; rw [m_impl_FlowValid_L12] at h
            refine cw_seq ?_
            refine cw_region ?_
            refine wl_u rfl (ow_y (yh_cmpI rfl rfl rfl rfl) rfl rfl (kk_wl ?_))
            refine wl_nil ?_
            refine ex_seq ?_
            refine cw_seq ?_
            refine cw_split rfl (fun c6 => ?_) (fun c6 => ?_)
            · skip
              replace h := bt c6 h
              have q9 := ltb_true.1 c6
              refine cw_skip ?_
              refine ex_seq ?_
              refine cw_seq ?_
              refine cw_block ?_
              refine cw_seq ?_
              refine cw_region ?_
              obtain ⟨y36, hy36, h⟩ := bd h
              obtain ⟨b36, o36, ha36⟩ := sl_addr h_f_steps hy36
              subst ha36
              obtain ⟨a36, e36, hc36, hf36⟩ := get_step h_f_steps hy36
              have mx36 := rd_max hf36
              refine wl_u rfl (ow_y (yh_idx Tb (k := s34) rfl rfl rfl rfl (get_lt hy36) rfl rfl) rfl rfl (kk_wl ?_))
              refine wl_u rfl (ow_y (yh_loadAN Tb rfl rfl rfl rfl hc36 rfl) rfl rfl (kk_wl ?_))
              refine wl_u rfl (ow_allocA Tb rfl rfl rfl rfl (fun g4 => kk_wl ?_))
              refine wl_u rfl (ow_storeA Tb (k := 0) rfl rfl rfl rfl rfl rfl rfl rfl rfl (kk_wl ?_))
              refine wl_nil ?_
              refine ex_seq ?_
              refine cw_seq ?_
              refine cw_dr [0, 2, 3, 4, 6, 7, 9, 10] [] [blkC g4 49 [.string y36.name, .slice a36 y36.after.length e36, .bool y36.undo], blkC g1 25 [.int .i64 f.ver, .slice (some ⟨b36, o36, none⟩) f.steps.length c_f_steps]] (by kernel_rfl) ?_
              refine wd_take (i := 0) [0, 1] rfl rfl rfl rfl rfl (by kernel_rfl) (by kernel_rfl) (fun _ _ _ _ h => h) (yh_loadBA Tb (k := 0) rfl rfl rfl rfl rfl rfl) ?_
              obtain ⟨x39, hx39, h⟩ := bd h
              refine wd_one 1 rfl rfl (by kernel_rfl) (ow_cV rfl hb71 rfl (fun w hw => c_impl_StepValid N _ _ hx39 w (Lay.at_ hf36 hw)) rfl rfl (kk_wd [0, 1] (by kernel_rfl) ?_))
              refine wd_take (i := 2) [0, 1] rfl rfl rfl rfl rfl (by kernel_rfl) (by kernel_rfl) (fun _ _ _ _ h => h) (yh_not rfl rfl) ?_
              refine wd_take (i := 3) [0, 1] rfl rfl rfl rfl rfl (by kernel_rfl) (by kernel_rfl) (fun _ _ _ _ h => h) (yh_move rfl rfl) ?_
              refine wd_split 4 rfl rfl rfl (fun c7 => ?_) (fun c7 => ?_)
              · skip
                replace h := bt c7 h
                refine wd_skip (i := 4) [0, 1] rfl rfl rfl rfl (by kernel_rfl) (by kernel_rfl) (fun _ _ _ h => h) ?_
                refine wd_skip (i := 6) [0, 1] rfl rfl rfl rfl (by kernel_rfl) (by kernel_rfl) (fun _ _ _ h => h) ?_
                refine wd_skip (i := 7) [0, 1] rfl rfl rfl rfl (by kernel_rfl) (by kernel_rfl) (fun _ _ _ h => h) ?_
                refine wd_offD 5 rfl rfl rfl rfl (by kernel_rfl) [0, 1] (fun _ => rfl) ?_
                refine wd_offD 8 rfl rfl rfl rfl (by kernel_rfl) [0, 1] (fun _ => rfl) ?_
                refine wd_skip (i := 9) [0, 1] rfl rfl rfl rfl (by kernel_rfl) (by kernel_rfl) (fun _ _ _ h => h) ?_
                refine wd_take (i := 10) [0, 1] rfl rfl rfl rfl rfl (by kernel_rfl) (by kernel_rfl) (fun _ _ _ _ h => h) (yh_pickT rfl rfl rfl) ?_
                refine wd_done (by kernel_rfl) ?_
                refine ex_seq ?_
                refine cw_true rfl ?_
                refine cw_seq ?_
                refine cw_region ?_
                refine wl_u rfl (ow_y (yh_assign rfl rfl) rfl rfl (kk_wl ?_))
                refine wl_nil ?_
                refine ex_seq ?_
                refine cw_ret ?_
                refine ex_block_ret ?_
                refine ex_then_ret ?_
                refine ex_then_ret ?_
                refine ex_block_ret ?_
                refine ex_then_ret ?_
                obtain rfl := Option.some.inj h
                obtain rfl := go_ret hk12
                exact ex_r1 Tb rfl (.tmp rfl) (fun wq hq => ⟨_, rfl, hq.ext, rfl⟩)
              · skip
                replace h := bf c7 h
                refine wd_take (i := 4) [0, 1] rfl rfl rfl rfl rfl (by kernel_rfl) (by kernel_rfl) (fun _ _ _ _ h => h) (yh_loadBA Tb (k := 1) rfl rfl rfl rfl rfl rfl) ?_
                refine wd_take (i := 6) [0, 1] rfl rfl rfl rfl rfl (by kernel_rfl) (by kernel_rfl) (fun _ _ _ _ h => h) (yh_field Tb rfl rfl rfl) ?_
                refine wd_take (i := 7) [0, 1] rfl rfl rfl rfl rfl (by kernel_rfl) (by kernel_rfl) (fun _ _ _ _ h => h) (yh_loadB Tb (k := 0) rfl rfl rfl rfl rfl) ?_
                obtain ⟨x43, hx43, h⟩ := bd h
                refine wd_one 5 rfl rfl (by kernel_rfl) (ow_cN1 rfl hb34 rfl (fun w hw => c_impl_Flow_names N _ _ hx43 w (Lay.at_ h_f_steps hw)) rfl rfl (fun a43 c43 F43 => kk_wd [1, 2] (by kernel_rfl) ?_))
                obtain ⟨x46, hx46, h⟩ := bd h
                refine wd_one 8 rfl rfl (by kernel_rfl) (ow_cV rfl hb66 rfl (fun w hw => c_impl_NamesHave N _ _ _ hx46 w (rdo (A := strsL) 0 rfl hw) (Lay.at_ hf36 hw)) rfl rfl (kk_wd [1, 2] (by kernel_rfl) ?_))
                refine wd_take (i := 9) [1, 2] rfl rfl rfl rfl rfl (by kernel_rfl) (by kernel_rfl) (fun _ _ _ _ h => h) (yh_not rfl rfl) ?_
                refine wd_take (i := 10) [1, 2] rfl rfl rfl rfl rfl (by kernel_rfl) (by kernel_rfl) (fun _ _ _ _ h => h) (yh_pickF rfl rfl rfl) ?_
                refine wd_done (by kernel_rfl) ?_
                refine ex_seq ?_
                refine cw_split rfl (fun c8 => ?_) (fun c8 => ?_)
                · skip
                  replace h := bt c8 h
                  refine cw_seq ?_
                  refine cw_region ?_
                  refine wl_u rfl (ow_y (yh_assign rfl rfl) rfl rfl (kk_wl ?_))
                  refine wl_nil ?_
                  refine ex_seq ?_
                  refine cw_ret ?_
                  refine ex_block_ret ?_
                  refine ex_then_ret ?_
                  refine ex_then_ret ?_
                  refine ex_block_ret ?_
                  refine ex_then_ret ?_
                  obtain rfl := Option.some.inj h
                  obtain rfl := go_ret hk12
                  exact ex_r1 Tb rfl (.tmp rfl) (fun wq hq => ⟨_, rfl, hq.ext, rfl⟩)
                · skip
                  replace h := bf c8 h
                  refine cw_skip ?_
                  refine ex_block_normal ?_
                  refine ex_seq ?_
                  refine cw_region ?_
                  refine wl_u rfl (ow_y (yh_arI rfl rfl rfl rfl (by omega)) rfl rfl (kk_wl ?_))
                  refine wl_u rfl (ow_y (yh_move rfl rfl) rfl rfl (kk_wl ?_))
                  refine wl_nil ?_
                  exact ex_next [2] (hn12 (n12, s34 + 1) (Nat.lt_succ_self _) h) ⟨rfl, rfl, rfl, rfl, trivial⟩ (by kernel_rfl)
            · skip
              replace h := bf c6 h
              have q10 := ltb_false.1 c6
              refine cw_exit ?_
              refine ex_then_exit ?_
              refine ex_then_exit ?_
              obtain rfl := Option.some.inj h
              have h := go_brk hk12
              refine ex_block_exit ?_
              refine ex_seq ?_
              refine cw_seq ?_
              refine cw_dr [0, 2, 3, 4, 5, 6, 7] [] [blkC g1 25 [.int .i64 f.ver, .slice a_f_steps f.steps.length c_f_steps]] (by kernel_rfl) ?_
              refine wd_take (i := 0) [0] rfl rfl rfl rfl rfl (by kernel_rfl) (by kernel_rfl) (fun _ _ _ _ h => h) (yh_loadBA Tb (k := 0) rfl rfl rfl rfl rfl rfl) ?_
              refine wd_take (i := 3) [0] rfl rfl rfl rfl rfl (by kernel_rfl) (by kernel_rfl) (fun _ _ _ _ h => h) (yh_field Tb rfl rfl rfl) ?_
              refine wd_take (i := 4) [0] rfl rfl rfl rfl rfl (by kernel_rfl) (by kernel_rfl) (fun _ _ _ _ h => h) (yh_loadB Tb (k := 0) rfl rfl rfl rfl rfl) ?_
              refine wd_take (i := 5) [0] rfl rfl rfl rfl rfl (by kernel_rfl) (by kernel_rfl) (fun _ _ _ _ h => h) (yh_lenS Tb rfl rfl rfl rfl) ?_
              obtain ⟨x51, hx51, h⟩ := bd h
              refine wd_one 1 rfl rfl (by kernel_rfl) (ow_cN1 rfl hb40 rfl (fun w hw => c_impl_Flow_order N _ _ hx51 w (Lay.at_ h_f_steps hw)) rfl rfl (fun a51 c51 F51 => kk_wd [1] (by kernel_rfl) ?_))
              refine wd_know (x51.length ≤ 9223372036854775807) (fun w hw => own_max 0 rfl hw) (fun mo52 => ?_)
              refine wd_take (i := 2) [1] rfl rfl rfl rfl rfl (by kernel_rfl) (by kernel_rfl) (fun _ _ _ _ h => h) (yh_lenS Tb rfl rfl rfl rfl) ?_
              refine wd_take (i := 6) [1] rfl rfl rfl rfl rfl (by kernel_rfl) (by kernel_rfl) (fun _ _ _ _ h => h) (yh_cmpI rfl rfl rfl rfl) ?_
              refine wd_take (i := 7) [1] rfl rfl rfl rfl rfl (by kernel_rfl) (by kernel_rfl) (fun _ _ _ _ h => h) (yh_assign rfl rfl) ?_
              refine wd_done (by kernel_rfl) ?_
              refine ex_seq ?_
              refine cw_ret ?_
              obtain rfl := Option.some.inj h
              exact ex_r1 Tb rfl (.tmp rfl) (fun wq hq => ⟨_, rfl, hq.ext, rfl⟩)

def m_impl_Flow_at_f1 (N : Nat) (s_ : Step) (name : Str) : Option (Bool) := some (seq s_.name name)

set_option maxHeartbeats 4000000 in
theorem c_impl_Flow_at_f1 (N : Nat) (s_ : Step) (name : Str) (res : Bool) (h : m_impl_Flow_at_f1 N s_ name = some res) (w : World) {a_s__after : Option Addr} {c_s__after : Nat} {g_name : Nat} (h_s__after : strsL.rd w [] [.slice a_s__after s_.after.length c_s__after] s_.after) (hg_name : CellN w [] g_name 0 [.string name]) : Ret Tryz.prog 81 [.agg #[.string s_.name, .slice a_s__after s_.after.length c_s__after, .bool s_.undo], .pointer (some ⟨g_name, 0, none⟩)] w [] fun v w' => v = .bool res := by
  have mh_s__after := rd_max h_s__after
  unfold m_impl_Flow_at_f1 at h
  refine ret_enter Tryz.func81 rfl Tryz.ntmps81 rfl (Hp.refl w _) ?_
  refine cw_seq ?_
  refine cw_region ?_
  refine wl_u rfl (ow_boxA rfl rfl rfl rfl (fun g2 => kk_wl ?_))
  refine wl_u rfl (ow_y (yh_assign rfl rfl) rfl rfl (kk_wl ?_))
  refine wl_nil ?_
  refine ex_seq ?_
  refine cw_seq ?_
  refine cw_region ?_
  refine wl_u rfl (ow_y (yh_field Tb rfl rfl rfl) rfl rfl (kk_wl ?_))
  refine wl_u rfl (ow_y (yh_loadB Tb (k := 0) rfl rfl rfl rfl rfl) rfl rfl (kk_wl ?_))
  refine wl_u rfl (ow_y (yh_loadA0 Tb rfl rfl rfl hg_name rfl) rfl rfl (kk_wl ?_))
  refine wl_u rfl (ow_y (yh_cmpS rfl rfl rfl rfl) rfl rfl (kk_wl ?_))
  refine wl_u rfl (ow_y (yh_assign rfl rfl) rfl rfl (kk_wl ?_))
  refine wl_nil ?_
  refine ex_seq ?_
  refine cw_ret ?_
  obtain rfl := Option.some.inj h
  exact ex_r1 Tb rfl (.tmp rfl) (fun wq hq => ⟨_, rfl, hq.ext, rfl⟩)

def m_slices_IndexFunc_Step_L4 (N : Nat) (s_ : List Step) (f : Step → Option Bool) : Nat → Nat → Option (Ex (Nat) (Int))
  | 0, _ => none
  | n + 1, s8 => (bif ltb ((s8 : Nat) : Int) ((s_.length : Nat) : Int) then (s_[s8]?).bind fun y14 => (f y14).bind fun x16 => (bif x16 then some (Ex.ret ((s8 : Nat) : Int))
 else m_slices_IndexFunc_Step_L4 N s_ f n (s8 + 1))
 else some (Ex.brk (s8)))

def m_slices_IndexFunc_Step (N : Nat) (s_ : List Step) (f : Step → Option Bool) : Option (Int) := (m_slices_IndexFunc_Step_L4 N s_ f N 0).bind fun e4 => e4.go (fun r => r) fun b4 => some (-1)

set_option maxHeartbeats 4000000 in
theorem c_slices_IndexFunc_Step (N : Nat) (s_ : List Step) (f : Step → Option Bool) (res : Int) (h : m_slices_IndexFunc_Step N s_ f = some res) (w : World) {a_s_ : Option Addr} {c_s_ : Nat} {k_f : FuncId} {caps_f : List Value} (h_s_ : stepsL.rd w [] [.slice a_s_ s_.length c_s_] s_) (hb_f : hasBody Tryz.prog k_f) (hf_f : ∀ x0 b, f x0 = some b → ∀ w', ExtM [] w w' → ∀ a1 c1, strsL.rd w' [] [.slice a1 x0.after.length c1] x0.after → Ret Tryz.prog k_f ([.agg #[.string x0.name, .slice a1 x0.after.length c1, .bool x0.undo]] ++ caps_f) w' [] fun v _ => v = .bool b) : Ret Tryz.prog 80 [.slice a_s_ s_.length c_s_, .func (.func k_f) #[] caps_f.toArray] w [] fun v w' => v = .int .i64 res := by
  have mh_s_ := rd_max h_s_
  unfold m_slices_IndexFunc_Step at h
  refine ret_enter Tryz.func80 rfl Tryz.ntmps80 rfl (Hp.refl w _) ?_
  refine cw_seq ?_
  refine cw_region ?_
  refine wl_u rfl (ow_y (yh_assign rfl rfl) rfl rfl (kk_wl ?_))
  refine wl_nil ?_
  refine ex_seq ?_
  refine cw_seq ?_
  refine cw_seq ?_
  refine cw_region ?_
  refine wl_u rfl (ow_y (yh_move rfl rfl) rfl rfl (kk_wl ?_))
  refine wl_u rfl (ow_y (yh_lenS Tb rfl rfl rfl rfl) rfl rfl (kk_wl ?_))
  refine wl_u rfl (ow_y (yh_move rfl rfl) rfl rfl (kk_wl ?_))
  refine wl_nil ?_
  refine ex_seq ?_
  refine cw_block ?_
  obtain ⟨e4, he4, hk4⟩ := bd h
  clear h
  refine cw_loopG (σ := Nat × Nat) (fun s => m_slices_IndexFunc_Step_L4 N s_ f s.1 s.2 = some e4) (fun s => [(0, .slice a_s_ s_.length c_s_), (1, .func (.func k_f) #[] caps_f.toArray), (7, .int .i64 ((s_.length : Nat) : Int)), (8, .int .i64 ((s.2 : Nat) : Int))]) (fun s => []) (fun s => s.1) (N, 0) [] he4 ⟨rfl, rfl, rfl, rfl, trivial⟩ rfl (fun KL s he4 hn4 => ?_)
  obtain ⟨n4, s8⟩ := s
  simp only at he4 hn4 ⊢
  rcases n4 with _ | n4
  · exact nosome he4
  have h := he4; rw [m_slices_IndexFunc_Step_L4] at h
  refine cw_seq ?_
  refine cw_region ?_
  refine wl_u rfl (ow_y (yh_cmpI rfl rfl rfl rfl) rfl rfl (kk_wl ?_))
  refine wl_nil ?_
  refine ex_seq ?_
  refine cw_seq ?_
  refine cw_split rfl (fun c1 => ?_) (fun c1 => ?_)
  · skip
    replace h := bt c1 h
    have q1 := ltb_true.1 c1
    refine cw_skip ?_
    refine ex_seq ?_
    refine cw_seq ?_
    refine cw_block ?_
    refine cw_seq ?_
    refine cw_region ?_
    refine wl_u rfl (ow_y (yh_move rfl rfl) rfl rfl (kk_wl ?_))
    refine wl_u rfl (ow_y (yh_assign rfl rfl) rfl rfl (kk_wl ?_))
    refine wl_nil ?_
    refine ex_seq ?_
    refine cw_seq ?_
    refine cw_region ?_
    refine wl_u rfl (ow_y (yh_move rfl rfl) rfl rfl (kk_wl ?_))
    refine wl_u rfl (ow_y (yh_move rfl rfl) rfl rfl (kk_wl ?_))
    refine wl_u rfl (ow_y (yh_move rfl rfl) rfl rfl (kk_wl ?_))
    obtain ⟨y14, hy14, h⟩ := bd h
    obtain ⟨b14, o14, ha14⟩ := sl_addr h_s_ hy14
    subst ha14
    obtain ⟨a14, e14, hc14, hf14⟩ := get_step h_s_ hy14
    have mx14 := rd_max hf14
    refine wl_u rfl (ow_y (yh_idx Tb (k := s8) rfl rfl rfl rfl (get_lt hy14) rfl rfl) rfl rfl (kk_wl ?_))
    refine wl_u rfl (ow_y (yh_loadAN Tb rfl rfl rfl rfl hc14 rfl) rfl rfl (kk_wl ?_))
    obtain ⟨x16, hx16, h⟩ := bd h
    refine wl_u rfl (ow_callV rfl rfl hb_f rfl rfl (fun w hw => hf_f _ _ hx16 w hw.ext _ _ (Lay.at_ hf14 hw)) rfl rfl (kk_wl ?_))
    refine wl_nil ?_
    refine ex_seq ?_
    refine cw_split rfl (fun c2 => ?_) (fun c2 => ?_)
    · skip
      replace h := bt c2 h
      refine cw_seq ?_
      refine cw_region ?_
      refine wl_u rfl (ow_y (yh_move rfl rfl) rfl rfl (kk_wl ?_))
      refine wl_u rfl (ow_y (yh_assign rfl rfl) rfl rfl (kk_wl ?_))
      refine wl_nil ?_
      refine ex_seq ?_
      refine cw_ret ?_
      refine ex_block_ret ?_
      refine ex_then_ret ?_
      refine ex_then_ret ?_
      refine ex_block_ret ?_
      refine ex_then_ret ?_
      obtain rfl := Option.some.inj h
      obtain rfl := go_ret hk4
      exact ex_r1 Tb rfl (.tmp rfl) (fun wq hq => ⟨_, rfl, hq.ext, rfl⟩)
    · skip
      replace h := bf c2 h
      refine cw_skip ?_
      refine ex_block_normal ?_
      refine ex_seq ?_
      refine cw_region ?_
      refine wl_u rfl (ow_y (yh_arI rfl rfl rfl rfl (by omega)) rfl rfl (kk_wl ?_))
      refine wl_u rfl (ow_y (yh_move rfl rfl) rfl rfl (kk_wl ?_))
      refine wl_nil ?_
      exact ex_next [] (hn4 (n4, s8 + 1) (Nat.lt_succ_self _) h) ⟨rfl, rfl, rfl, rfl, trivial⟩ (by kernel_rfl)
  · skip
    replace h := bf c1 h
    have q2 := ltb_false.1 c1
    refine cw_exit ?_
    refine ex_then_exit ?_
    refine ex_then_exit ?_
    obtain rfl := Option.some.inj h
    have h := go_brk hk4
    refine ex_block_exit ?_
    refine ex_seq ?_
    refine cw_seq ?_
    refine cw_region ?_
    refine wl_u rfl (ow_y (yh_assign rfl rfl) rfl rfl (kk_wl ?_))
    refine wl_nil ?_
    refine ex_seq ?_
    refine cw_ret ?_
    obtain rfl := Option.some.inj h
    exact ex_r1 Tb rfl (.tmp rfl) (fun wq hq => ⟨_, rfl, hq.ext, rfl⟩)

def m_impl_Flow_at (N : Nat) (f : Flow) (name : Str) : Option (Int) := (m_slices_IndexFunc_Step N f.steps (fun x0 => m_impl_Flow_at_f1 N x0 name)).bind fun x8 => some x8

set_option maxHeartbeats 4000000 in
theorem c_impl_Flow_at (N : Nat) (f : Flow) (name : Str) (res : Int) (h : m_impl_Flow_at N f name = some res) (w : World) {a_f_steps : Option Addr} {c_f_steps : Nat} (h_f_steps : stepsL.rd w [] [.slice a_f_steps f.steps.length c_f_steps] f.steps) : Ret Tryz.prog 36 [.agg #[.int .i64 f.ver, .slice a_f_steps f.steps.length c_f_steps], .string name] w [] fun v w' => v = .int .i64 res := by
  have mh_f_steps := rd_max h_f_steps
  unfold m_impl_Flow_at at h
  refine ret_enter Tryz.func36 rfl Tryz.ntmps36 rfl (Hp.refl w _) ?_
  refine cw_seq ?_
  refine cw_region ?_
  refine wl_u rfl (ow_boxA rfl rfl rfl rfl (fun g2 => kk_wl ?_))
  refine wl_u rfl (ow_box1 rfl rfl rfl rfl rfl (fun g3 => kk_wl ?_))
  refine wl_u rfl (ow_y (yh_assign rfl rfl) rfl rfl (kk_wl ?_))
  refine wl_nil ?_
  refine ex_seq ?_
  refine cw_seq ?_
  refine cw_region ?_
  refine wl_u rfl (ow_y (yh_field Tb rfl rfl rfl) rfl rfl (kk_wl ?_))
  refine wl_u rfl (ow_y (yh_loadB Tb (k := 1) rfl rfl rfl rfl rfl) rfl rfl (kk_wl ?_))
  refine wl_u rfl (ow_y (yh_mkfn rfl rfl) rfl rfl (kk_wl ?_))
  obtain ⟨x8, hx8, h⟩ := bd h
  refine wl_u rfl (ow_cV rfl hb80 rfl (fun w hw => c_slices_IndexFunc_Step N _ _ _ hx8 w (Lay.at_ h_f_steps hw) hb81 (fun x0 b hb w' hE a1 c1 h1 => c_impl_Flow_at_f1 N x0 name b hb w' h1 (cell_blk ((hw.step hE).at (i := 0) rfl)))) rfl rfl (kk_wl ?_))
  refine wl_u rfl (ow_y (yh_assign rfl rfl) rfl rfl (kk_wl ?_))
  refine wl_nil ?_
  refine ex_seq ?_
  refine cw_ret ?_
  obtain rfl := Option.some.inj h
  exact ex_r1 Tb rfl (.tmp rfl) (fun wq hq => ⟨_, rfl, hq.ext, rfl⟩)

def m_impl_ChangesOf_f1 (N : Nat) (n_ : Str) (k0 : Flow) : Option (Bool) := (m_impl_Flow_at N k0 n_).bind fun x6 => some (leb 0 x6)

set_option maxHeartbeats 4000000 in
theorem c_impl_ChangesOf_f1 (N : Nat) (n_ : Str) (k0 : Flow) (res : Bool) (h : m_impl_ChangesOf_f1 N n_ k0 = some res) (w : World) {a_k0_steps : Option Addr} {c_k0_steps : Nat} {g_k0 : Nat} (h_k0_steps : stepsL.rd w [] [.slice a_k0_steps k0.steps.length c_k0_steps] k0.steps) (hg_k0 : CellN w [] g_k0 0 [.int .i64 k0.ver, .slice a_k0_steps k0.steps.length c_k0_steps]) : Ret Tryz.prog 35 [.string n_, .pointer (some ⟨g_k0, 0, none⟩)] w [] fun v w' => v = .bool res := by
  have mh_k0_steps := rd_max h_k0_steps
  unfold m_impl_ChangesOf_f1 at h
  refine ret_enter Tryz.func35 rfl Tryz.ntmps35 rfl (Hp.refl w _) ?_
  refine cw_seq ?_
  refine cw_region ?_
  refine wl_u rfl (ow_y (yh_assign rfl rfl) rfl rfl (kk_wl ?_))
  refine wl_nil ?_
  refine ex_seq ?_
  refine cw_seq ?_
  refine cw_region ?_
  refine wl_u rfl (ow_y (yh_loadAN Tb rfl rfl rfl rfl hg_k0 rfl) rfl rfl (kk_wl ?_))
  refine wl_u rfl (ow_y (yh_move rfl rfl) rfl rfl (kk_wl ?_))
  obtain ⟨x6, hx6, h⟩ := bd h
  refine wl_u rfl (ow_cV rfl hb36 rfl (fun w hw => c_impl_Flow_at N _ _ _ hx6 w (Lay.at_ h_k0_steps hw)) rfl rfl (kk_wl ?_))
  refine wl_u rfl (ow_y (yh_cmpI rfl rfl rfl rfl) rfl rfl (kk_wl ?_))
  refine wl_u rfl (ow_y (yh_assign rfl rfl) rfl rfl (kk_wl ?_))
  refine wl_nil ?_
  refine ex_seq ?_
  refine cw_ret ?_
  obtain rfl := Option.some.inj h
  exact ex_r1 Tb rfl (.tmp rfl) (fun wq hq => ⟨_, rfl, hq.ext, rfl⟩)

def m_slices_IndexFunc_string_L4 (N : Nat) (s_ : List Str) (f : Str → Option Bool) : Nat → Nat → Option (Ex (Nat) (Int))
  | 0, _ => none
  | n + 1, s8 => (bif ltb ((s8 : Nat) : Int) ((s_.length : Nat) : Int) then (s_[s8]?).bind fun y14 => (f y14).bind fun x16 => (bif x16 then some (Ex.ret ((s8 : Nat) : Int))
 else m_slices_IndexFunc_string_L4 N s_ f n (s8 + 1))
 else some (Ex.brk (s8)))

def m_slices_IndexFunc_string (N : Nat) (s_ : List Str) (f : Str → Option Bool) : Option (Int) := (m_slices_IndexFunc_string_L4 N s_ f N 0).bind fun e4 => e4.go (fun r => r) fun b4 => some (-1)

set_option maxHeartbeats 4000000 in
theorem c_slices_IndexFunc_string (N : Nat) (s_ : List Str) (f : Str → Option Bool) (res : Int) (h : m_slices_IndexFunc_string N s_ f = some res) (w : World) {a_s_ : Option Addr} {c_s_ : Nat} {k_f : FuncId} {caps_f : List Value} (h_s_ : strsL.rd w [] [.slice a_s_ s_.length c_s_] s_) (hb_f : hasBody Tryz.prog k_f) (hf_f : ∀ x0 b, f x0 = some b → ∀ w', ExtM [] w w' → Ret Tryz.prog k_f ([.string x0] ++ caps_f) w' [] fun v _ => v = .bool b) : Ret Tryz.prog 79 [.slice a_s_ s_.length c_s_, .func (.func k_f) #[] caps_f.toArray] w [] fun v w' => v = .int .i64 res := by
  have mh_s_ := rd_max h_s_
  unfold m_slices_IndexFunc_string at h
  refine ret_enter Tryz.func79 rfl Tryz.ntmps79 rfl (Hp.refl w _) ?_
  refine cw_seq ?_
  refine cw_region ?_
  refine wl_u rfl (ow_y (yh_assign rfl rfl) rfl rfl (kk_wl ?_))
  refine wl_nil ?_
  refine ex_seq ?_
  refine cw_seq ?_
  refine cw_seq ?_
  refine cw_region ?_
  refine wl_u rfl (ow_y (yh_move rfl rfl) rfl rfl (kk_wl ?_))
  refine wl_u rfl (ow_y (yh_lenS Tb rfl rfl rfl rfl) rfl rfl (kk_wl ?_))
  refine wl_u rfl (ow_y (yh_move rfl rfl) rfl rfl (kk_wl ?_))
  refine wl_nil ?_
  refine ex_seq ?_
  refine cw_block ?_
  obtain ⟨e4, he4, hk4⟩ := bd h
  clear h
  refine cw_loopG (σ := Nat × Nat) (fun s => m_slices_IndexFunc_string_L4 N s_ f s.1 s.2 = some e4) (fun s => [(0, .slice a_s_ s_.length c_s_), (1, .func (.func k_f) #[] caps_f.toArray), (7, .int .i64 ((s_.length : Nat) : Int)), (8, .int .i64 ((s.2 : Nat) : Int))]) (fun s => []) (fun s => s.1) (N, 0) [] he4 ⟨rfl, rfl, rfl, rfl, trivial⟩ rfl (fun KL s he4 hn4 => ?_)
  obtain ⟨n4, s8⟩ := s
  simp only at he4 hn4 ⊢
  rcases n4 with _ | n4
  · exact nosome he4
  have h := he4; rw [m_slices_IndexFunc_string_L4] at h
  refine cw_seq ?_
  refine cw_region ?_
  refine wl_u rfl (ow_y (yh_cmpI rfl rfl rfl rfl) rfl rfl (kk_wl ?_))
  refine wl_nil ?_
  refine ex_seq ?_
  refine cw_seq ?_
  refine cw_split rfl (fun c1 => ?_) (fun c1 => ?_)
  · skip
    replace h := bt c1 h
    have q1 := ltb_true.1 c1
    refine cw_skip ?_
    refine ex_seq ?_
    refine cw_seq ?_
    refine cw_block ?_
    refine cw_seq ?_
    refine cw_region ?_
    refine wl_u rfl (ow_y (yh_move rfl rfl) rfl rfl (kk_wl ?_))
    refine wl_u rfl (ow_y (yh_assign rfl rfl) rfl rfl (kk_wl ?_))
    refine wl_nil ?_
    refine ex_seq ?_
    refine cw_seq ?_
    refine cw_region ?_
    refine wl_u rfl (ow_y (yh_move rfl rfl) rfl rfl (kk_wl ?_))
    refine wl_u rfl (ow_y (yh_move rfl rfl) rfl rfl (kk_wl ?_))
    refine wl_u rfl (ow_y (yh_move rfl rfl) rfl rfl (kk_wl ?_))
    obtain ⟨y14, hy14, h⟩ := bd h
    obtain ⟨b14, o14, ha14⟩ := sl_addr h_s_ hy14
    subst ha14
    have hc14 := get_str h_s_ hy14
    refine wl_u rfl (ow_y (yh_idx Tb (k := s8) rfl rfl rfl rfl (get_lt hy14) rfl rfl) rfl rfl (kk_wl ?_))
    refine wl_u rfl (ow_y (yh_loadA0 Tb rfl rfl rfl hc14 rfl) rfl rfl (kk_wl ?_))
    obtain ⟨x16, hx16, h⟩ := bd h
    refine wl_u rfl (ow_callV rfl rfl hb_f rfl rfl (fun w hw => hf_f _ _ hx16 w hw.ext) rfl rfl (kk_wl ?_))
    refine wl_nil ?_
    refine ex_seq ?_
    refine cw_split rfl (fun c2 => ?_) (fun c2 => ?_)
    · skip
      replace h := bt c2 h
      refine cw_seq ?_
      refine cw_region ?_
      refine wl_u rfl (ow_y (yh_move rfl rfl) rfl rfl (kk_wl ?_))
      refine wl_u rfl (ow_y (yh_assign rfl rfl) rfl rfl (kk_wl ?_))
      refine wl_nil ?_
      refine ex_seq ?_
      refine cw_ret ?_
      refine ex_block_ret ?_
      refine ex_then_ret ?_
      refine ex_then_ret ?_
      refine ex_block_ret ?_
      refine ex_then_ret ?_
      obtain rfl := Option.some.inj h
      obtain rfl := go_ret hk4
      exact ex_r1 Tb rfl (.tmp rfl) (fun wq hq => ⟨_, rfl, hq.ext, rfl⟩)
    · skip
      replace h := bf c2 h
      refine cw_skip ?_
      refine ex_block_normal ?_
      refine ex_seq ?_
      refine cw_region ?_
      refine wl_u rfl (ow_y (yh_arI rfl rfl rfl rfl (by omega)) rfl rfl (kk_wl ?_))
      refine wl_u rfl (ow_y (yh_move rfl rfl) rfl rfl (kk_wl ?_))
      refine wl_nil ?_
      exact ex_next [] (hn4 (n4, s8 + 1) (Nat.lt_succ_self _) h) ⟨rfl, rfl, rfl, rfl, trivial⟩ (by kernel_rfl)
  · skip
    replace h := bf c1 h
    have q2 := ltb_false.1 c1
    refine cw_exit ?_
    refine ex_then_exit ?_
    refine ex_then_exit ?_
    obtain rfl := Option.some.inj h
    have h := go_brk hk4
    refine ex_block_exit ?_
    refine ex_seq ?_
    refine cw_seq ?_
    refine cw_region ?_
    refine wl_u rfl (ow_y (yh_assign rfl rfl) rfl rfl (kk_wl ?_))
    refine wl_nil ?_
    refine ex_seq ?_
    refine cw_ret ?_
    obtain rfl := Option.some.inj h
    exact ex_r1 Tb rfl (.tmp rfl) (fun wq hq => ⟨_, rfl, hq.ext, rfl⟩)

def m_slices_ContainsFunc_string (N : Nat) (s_ : List Str) (f : Str → Option Bool) : Option (Bool) := (m_slices_IndexFunc_string N s_ f).bind fun x7 => some (leb 0 x7)

set_option maxHeartbeats 4000000 in
theorem c_slices_ContainsFunc_string (N : Nat) (s_ : List Str) (f : Str → Option Bool) (res : Bool) (h : m_slices_ContainsFunc_string N s_ f = some res) (w : World) {a_s_ : Option Addr} {c_s_ : Nat} {k_f : FuncId} {caps_f : List Value} (h_s_ : strsL.rd w [] [.slice a_s_ s_.length c_s_] s_) (hb_f : hasBody Tryz.prog k_f) (hf_f : ∀ x0 b, f x0 = some b → ∀ w', ExtM [] w w' → Ret Tryz.prog k_f ([.string x0] ++ caps_f) w' [] fun v _ => v = .bool b) : Ret Tryz.prog 33 [.slice a_s_ s_.length c_s_, .func (.func k_f) #[] caps_f.toArray] w [] fun v w' => v = .bool res := by
  have mh_s_ := rd_max h_s_
  unfold m_slices_ContainsFunc_string at h
  refine ret_enter Tryz.func33 rfl Tryz.ntmps33 rfl (Hp.refl w _) ?_
  refine cw_seq ?_
  refine cw_region ?_
  refine wl_u rfl (ow_y (yh_assign rfl rfl) rfl rfl (kk_wl ?_))
  refine wl_nil ?_
  refine ex_seq ?_
  refine cw_seq ?_
  refine cw_region ?_
  refine wl_u rfl (ow_y (yh_move rfl rfl) rfl rfl (kk_wl ?_))
  refine wl_u rfl (ow_y (yh_move rfl rfl) rfl rfl (kk_wl ?_))
  obtain ⟨x7, hx7, h⟩ := bd h
  refine wl_u rfl (ow_cV rfl hb79 rfl (fun w hw => c_slices_IndexFunc_string N _ _ _ hx7 w (Lay.at_ h_s_ hw) hb_f (fun x b hb w' hE => hf_f x b hb w' (hw.ext.trans0 hE))) rfl rfl (kk_wl ?_))
  refine wl_u rfl (ow_y (yh_cmpI rfl rfl rfl rfl) rfl rfl (kk_wl ?_))
  refine wl_u rfl (ow_y (yh_assign rfl rfl) rfl rfl (kk_wl ?_))
  refine wl_nil ?_
  refine ex_seq ?_
  refine cw_ret ?_
  obtain rfl := Option.some.inj h
  exact ex_r1 Tb rfl (.tmp rfl) (fun wq hq => ⟨_, rfl, hq.ext, rfl⟩)

def m_impl_cloneNames (N : Nat) (list_ : List Str) : Option (List Str) := (appd ([] : List Str) list_).bind fun l4 => some (([] : List Str) ++ list_)

set_option maxHeartbeats 4000000 in
theorem c_impl_cloneNames (N : Nat) (list_ : List Str) (res : List Str) (h : m_impl_cloneNames N list_ = some res) (w : World) {a_list_ : Option Addr} {c_list_ : Nat} (h_list_ : strsL.rd w [] [.slice a_list_ list_.length c_list_] list_) : Ret Tryz.prog 76 [.slice a_list_ list_.length c_list_] w [] fun v w' => ∃ a1 c1 F1, v = .slice a1 res.length c1 ∧ NewC w w' [owC strsL F1 [.slice a1 res.length c1] res] := by
  have mh_list_ := rd_max h_list_
  unfold m_impl_cloneNames at h
  refine ret_enter Tryz.func76 rfl Tryz.ntmps76 rfl (Hp.refl w _) ?_
  refine cw_seq ?_
  refine cw_region ?_
  refine wl_u rfl (ow_y (yh_assign rfl rfl) rfl rfl (kk_wl ?_))
  refine wl_nil ?_
  refine ex_seq ?_
  refine cw_seq ?_
  refine cw_region ?_
  refine wl_u rfl (ow_y (yh_move rfl rfl) rfl rfl (kk_wl ?_))
  obtain ⟨hll4, h⟩ := bd_appd h
  refine wl_u rfl (ow_nilS strsL rfl (ow_appP Tb (i := 0) rfl rfl rfl rfl rfl (fun w hw => Lay.at_ h_list_ hw) rfl rfl rfl rfl hll4 (by decide) rfl rfl (fun a4 c4 F4 => kk_wl ?_)))
  refine wl_u rfl (ow_y (yh_assign rfl rfl) rfl rfl (kk_wl ?_))
  refine wl_nil ?_
  refine ex_seq ?_
  refine cw_ret ?_
  obtain rfl := Option.some.inj h
  exact ex_r1 Tb rfl (.tmp rfl) (fun wq hq => ⟨_, rfl, hq.ext, ⟨a4, c4, F4, rfl, NewC.sel [0] hq rfl⟩⟩)

def m_impl_Step_clone (N : Nat) (s_ : Step) : Option (Step) := (m_impl_cloneNames N s_.after).bind fun x5 => some (Step.mk s_.name x5 s_.undo)

set_option maxHeartbeats 4000000 in
theorem c_impl_Step_clone (N : Nat) (s_ : Step) (res : Step) (h : m_impl_Step_clone N s_ = some res) (w : World) {a_s__after : Option Addr} {c_s__after : Nat} (h_s__after : strsL.rd w [] [.slice a_s__after s_.after.length c_s__after] s_.after) : Ret Tryz.prog 38 [.agg #[.string s_.name, .slice a_s__after s_.after.length c_s__after, .bool s_.undo]] w [] fun v w' => ∃ a1 c1 F1, v = .agg #[.string res.name, .slice a1 res.after.length c1, .bool res.undo] ∧ NewC w w' [owC strsL F1 [.slice a1 res.after.length c1] res.after] := by
  have mh_s__after := rd_max h_s__after
  unfold m_impl_Step_clone at h
  refine ret_enter Tryz.func38 rfl Tryz.ntmps38 rfl (Hp.refl w _) ?_
  refine cw_seq ?_
  refine cw_region ?_
  refine wl_u rfl (ow_boxA rfl rfl rfl rfl (fun g1 => kk_wl ?_))
  refine wl_u rfl (ow_allocA Tb rfl rfl rfl rfl (fun g2 => kk_wl ?_))
  refine wl_nil ?_
  refine ex_seq ?_
  refine cw_seq ?_
  refine cw_region ?_
  refine wl_u rfl (ow_y (yh_field Tb rfl rfl rfl) rfl rfl (kk_wl ?_))
  refine wl_u rfl (ow_y (yh_loadB Tb (k := 1) rfl rfl rfl rfl rfl) rfl rfl (kk_wl ?_))
  obtain ⟨x5, hx5, h⟩ := bd h
  refine wl_u rfl (ow_cN1 rfl hb76 rfl (fun w hw => c_impl_cloneNames N _ _ hx5 w (Lay.at_ h_s__after hw)) rfl rfl (fun a5 c5 F5 => kk_wl ?_))
  refine wl_u rfl (ow_y (yh_field Tb rfl rfl rfl) rfl rfl (kk_wl ?_))
  refine wl_u rfl (ow_store1 Tb (k := 2) rfl rfl rfl rfl rfl rfl rfl rfl rfl (kk_wl ?_))
  refine wl_nil ?_
  refine ex_seq ?_
  refine cw_seq ?_
  refine cw_region ?_
  refine wl_u rfl (ow_y (yh_loadBA Tb (k := 0) rfl rfl rfl rfl rfl rfl) rfl rfl (kk_wl ?_))
  refine wl_u rfl (ow_storeA Tb (k := 2) rfl rfl rfl rfl rfl rfl rfl rfl rfl (kk_wl ?_))
  refine wl_nil ?_
  refine ex_seq ?_
  refine cw_ret ?_
  obtain rfl := Option.some.inj h
  exact ex_r1 Tb rfl (.cellA 0 rfl rfl rfl rfl rfl) (fun wq hq => ⟨_, rfl, hq.ext, ⟨a5, c5, F5, rfl, NewC.sel [2] hq rfl⟩⟩)

def m_impl_ChangesOf_f2 (N : Nat) (kind : Int) (s_ : Step) (k0 : List Change) : Option (List Change) := (m_impl_Step_clone N s_).bind fun x8 => (appd k0 [(Change.mk kind x8)]).bind fun l11 => some (k0 ++ [(Change.mk kind x8)])

set_option maxHeartbeats 4000000 in
theorem c_impl_ChangesOf_f2 (N : Nat) (kind : Int) (s_ : Step) (k0 : List Change) (res : List Change) (h : m_impl_ChangesOf_f2 N kind s_ k0 = some res) (w : World) {a_s__after : Option Addr} {c_s__after : Nat} {a_k0 : Option Addr} {c_k0 g_k0 : Nat} {F_k0 : List Nat} (hr : (blkC g_k0 28 [.slice a_k0 k0.length c_k0]).A w) (hr2 : (owC changesL F_k0 [.slice a_k0 k0.length c_k0] k0).A w) (hnd : (g_k0 :: F_k0).Nodup) (h_s__after : strsL.rd w (g_k0 :: F_k0) [.slice a_s__after s_.after.length c_s__after] s_.after) : Ret Tryz.prog 37 [.int .i64 kind, .agg #[.string s_.name, .slice a_s__after s_.after.length c_s__after, .bool s_.undo], .pointer (some ⟨g_k0, 0, none⟩)] w (g_k0 :: F_k0) fun v w' => ∃ a1 c1 F1, v = .tuple #[] ∧ NewM w w' (g_k0 :: F_k0) [blkC g_k0 28 [.slice a1 res.length c1], owC changesL F1 [.slice a1 res.length c1] res] := by
  have mh_s__after := rd_max h_s__after
  unfold m_impl_ChangesOf_f2 at h
  refine ret_enter Tryz.func37 rfl Tryz.ntmps37 rfl (hp_pair hr hr2 hnd) ?_
  refine cw_seq ?_
  refine cw_region ?_
  refine wl_u rfl (ow_boxA rfl rfl rfl rfl (fun g4 => kk_wl ?_))
  refine wl_nil ?_
  refine ex_seq ?_
  refine cw_dr [0, 1, 2, 4] [6, 7] [blkC g4 49 [.string s_.name, .slice a_s__after s_.after.length c_s__after, .bool s_.undo], blkC g_k0 28 [.slice a_k0 k0.length c_k0], owC changesL F_k0 [.slice a_k0 k0.length c_k0] k0] (by kernel_rfl) ?_
  refine wd_take (i := 0) [0, 1, 2] rfl rfl rfl rfl rfl (by kernel_rfl) (by kernel_rfl) (fun _ _ _ _ h => h) (yh_loadB Tb (k := 1) rfl rfl rfl rfl rfl) ?_
  refine wd_take (i := 1) [0, 1, 2] rfl rfl rfl rfl rfl (by kernel_rfl) (by kernel_rfl) (fun _ _ _ _ h => h) (yh_move rfl rfl) ?_
  refine wd_take (i := 2) [0, 1, 2] rfl rfl rfl rfl rfl (by kernel_rfl) (by kernel_rfl) (fun _ _ _ _ h => h) (yh_loadBA Tb (k := 0) rfl rfl rfl rfl rfl rfl) ?_
  obtain ⟨x8, hx8, h⟩ := bd h
  refine wd_one 3 rfl rfl (by kernel_rfl) (ow_cN1 rfl hb38 rfl (fun w hw => c_impl_Step_clone N _ _ hx8 w (Lay.at_ h_s__after hw)) rfl rfl (fun a8 c8 F8 => kk_wd [1, 2, 3] (by kernel_rfl) ?_))
  refine wd_take (i := 4) [1, 2, 3] rfl rfl rfl rfl rfl (by kernel_rfl) (by kernel_rfl) (fun _ _ _ _ h => h) (yh_build [.int .i64 kind, .string x8.name, .slice a8 x8.after.length c8, .bool x8.undo] rfl rfl (by kernel_rfl)) ?_
  refine wd_one 5 rfl rfl (by kernel_rfl) (ow_litA Tb rfl rfl rfl rfl rfl rfl (by decide) rfl rfl (fun g10 => kk_wd [2, 3, 4] (by kernel_rfl) ?_))
  obtain ⟨hll11, h⟩ := bd_appd h
  refine wd_one 6 rfl rfl (by kernel_rfl) (ow_chg (c' := owC changeL F8 [.int .i64 kind, .string x8.name, .slice a8 x8.after.length c8, .bool x8.undo] (Change.mk kind x8)) 1 rfl (fun w hA => changeL_mk (Change.mk kind x8) hA) rfl (ow_appE Tb (i := 4) (j := 0) (k := 1) rfl rfl rfl rfl rfl rfl rfl rfl rfl rfl rfl (app1 hll11) (by decide) rfl rfl (fun a11 c11 F11 => kk_wdT rfl ?_)))
  refine wd_one 7 rfl rfl (by kernel_rfl) (ow_store1 Tb (k := 3) rfl rfl rfl rfl rfl rfl rfl rfl rfl (kk_wdT rfl ?_))
  refine wd_done (by kernel_rfl) ?_
  obtain rfl := Option.some.inj h
  exact ex_n0 rfl (fun wq hq => ⟨_, rfl, hq.ext, ⟨a11, c11, F11, rfl, NewM.sel [0, 1] hq (by kernel_rfl)⟩⟩)

def m_slices_Equal_string_L8 (N : Nat) (s1 : List Str) (s2 : List Str) : Nat → Nat → Option (Ex (Nat) (Bool))
  | 0, _ => none
  | n + 1, s13 => (bif ltb ((s13 : Nat) : Int) ((s1.length : Nat) : Int) then (s1[s13]?).bind fun y18 => (s2[s13]?).bind fun y22 => (bif !(seq y18 y22) then some (Ex.ret false)
 else m_slices_Equal_string_L8 N s1 s2 n (s13 + 1))
 else some (Ex.brk (s13)))

def m_slices_Equal_string (N : Nat) (s1 : List Str) (s2 : List Str) : Option (Bool) := (bif !(eqb ((s1.length : Nat) : Int) ((s2.length : Nat) : Int)) then some false
 else (m_slices_Equal_string_L8 N s1 s2 N 0).bind fun e8 => e8.go (fun r => r) fun b8 => some true)

set_option maxHeartbeats 4000000 in
theorem c_slices_Equal_string (N : Nat) (s1 : List Str) (s2 : List Str) (res : Bool) (h : m_slices_Equal_string N s1 s2 = some res) (w : World) {a_s1 a_s2 : Option Addr} {c_s1 c_s2 : Nat} (h_s1 : strsL.rd w [] [.slice a_s1 s1.length c_s1] s1) (h_s2 : strsL.rd w [] [.slice a_s2 s2.length c_s2] s2) : Ret Tryz.prog 39 [.slice a_s1 s1.length c_s1, .slice a_s2 s2.length c_s2] w [] fun v w' => v = .bool res := by
  have mh_s1 := rd_max h_s1
  have mh_s2 := rd_max h_s2
  unfold m_slices_Equal_string at h
  refine ret_enter Tryz.func39 rfl Tryz.ntmps39 rfl (Hp.refl w _) ?_
  refine cw_seq ?_
  refine cw_region ?_
  refine wl_u rfl (ow_y (yh_assign rfl rfl) rfl rfl (kk_wl ?_))
  refine wl_nil ?_
  refine ex_seq ?_
  refine cw_seq ?_
  refine cw_seq ?_
  refine cw_region ?_
  refine wl_u rfl (ow_y (yh_move rfl rfl) rfl rfl (kk_wl ?_))
  refine wl_u rfl (ow_y (yh_lenS Tb rfl rfl rfl rfl) rfl rfl (kk_wl ?_))
  refine wl_u rfl (ow_y (yh_move rfl rfl) rfl rfl (kk_wl ?_))
  refine wl_u rfl (ow_y (yh_lenS Tb rfl rfl rfl rfl) rfl rfl (kk_wl ?_))
  refine wl_u rfl (ow_y (yh_cmpI rfl rfl rfl rfl) rfl rfl (kk_wl ?_))
  refine wl_nil ?_
  refine ex_seq ?_
  refine cw_split rfl (fun c1 => ?_) (fun c1 => ?_)
  · skip
    replace h := bt c1 h
    have q1 := eqb_false.1 (nt c1)
    refine cw_seq ?_
    refine cw_region ?_
    refine wl_u rfl (ow_y (yh_assign rfl rfl) rfl rfl (kk_wl ?_))
    refine wl_nil ?_
    refine ex_seq ?_
    refine cw_ret ?_
    refine ex_then_ret ?_
    obtain rfl := Option.some.inj h
    exact ex_r1 Tb rfl (.tmp rfl) (fun wq hq => ⟨_, rfl, hq.ext, rfl⟩)
  · skip
    replace h := bf c1 h
    have q2 := eqb_true.1 (nf c1)
    refine cw_skip ?_
    refine ex_seq ?_
    refine cw_seq ?_
    refine cw_seq ?_
    refine cw_region ?_
    refine wl_u rfl (ow_y (yh_move rfl rfl) rfl rfl (kk_wl ?_))
    refine wl_u rfl (ow_y (yh_lenS Tb rfl rfl rfl rfl) rfl rfl (kk_wl ?_))
    refine wl_u rfl (ow_y (yh_move rfl rfl) rfl rfl (kk_wl ?_))
    refine wl_nil ?_
    refine ex_seq ?_
    refine cw_block ?_
    obtain ⟨e8, he8, hk8⟩ := bd h
    clear h
    refine cw_loopG (σ := Nat × Nat) (fun s => m_slices_Equal_string_L8 N s1 s2 s.1 s.2 = some e8) (fun s => [(0, .slice a_s1 s1.length c_s1), (1, .slice a_s2 s2.length c_s2), (12, .int .i64 ((s1.length : Nat) : Int)), (13, .int .i64 ((s.2 : Nat) : Int))]) (fun s => []) (fun s => s.1) (N, 0) [] he8 ⟨rfl, rfl, rfl, rfl, trivial⟩ rfl (fun KL s he8 hn8 => ?_)
    obtain ⟨n8, s13⟩ := s
    simp only at he8 hn8 ⊢
    rcases n8 with _ | n8
    · exact nosome he8
    have h := he8; rw [m_slices_Equal_string_L8] at h
    refine cw_seq ?_
    refine cw_region ?_
    refine wl_u rfl (ow_y (yh_cmpI rfl rfl rfl rfl) rfl rfl (kk_wl ?_))
    refine wl_nil ?_
    refine ex_seq ?_
    refine cw_seq ?_
    refine cw_split rfl (fun c2 => ?_) (fun c2 => ?_)
    · skip
      replace h := bt c2 h
      have q3 := ltb_true.1 c2
      refine cw_skip ?_
      refine ex_seq ?_
      refine cw_seq ?_
      refine cw_block ?_
      refine cw_seq ?_
      refine cw_region ?_
      refine wl_u rfl (ow_y (yh_move rfl rfl) rfl rfl (kk_wl ?_))
      refine wl_u rfl (ow_y (yh_assign rfl rfl) rfl rfl (kk_wl ?_))
      refine wl_nil ?_
      refine ex_seq ?_
      refine cw_seq ?_
      refine cw_dr [0, 1, 2, 3, 4, 5, 6, 7, 8] [] [] (by kernel_rfl) ?_
      refine wd_take (i := 0) [] rfl rfl rfl rfl rfl (by kernel_rfl) (by kernel_rfl) (fun _ _ _ _ h => h) (yh_move rfl rfl) ?_
      refine wd_take (i := 1) [] rfl rfl rfl rfl rfl (by kernel_rfl) (by kernel_rfl) (fun _ _ _ _ h => h) (yh_move rfl rfl) ?_
      obtain ⟨y18, hy18, h⟩ := bd h
      obtain ⟨b18, o18, ha18⟩ := sl_addr h_s1 hy18
      subst ha18
      have hc18 := get_str h_s1 hy18
      refine wd_take (i := 2) [] rfl rfl rfl rfl rfl (by kernel_rfl) (by kernel_rfl) (fun _ _ _ _ h => h) (yh_idx Tb (k := s13) rfl rfl rfl rfl (get_lt hy18) rfl rfl) ?_
      refine wd_take (i := 3) [] rfl rfl rfl rfl rfl (by kernel_rfl) (by kernel_rfl) (fun _ _ _ _ h => h) (yh_loadA0 Tb rfl rfl rfl hc18 rfl) ?_
      refine wd_take (i := 4) [] rfl rfl rfl rfl rfl (by kernel_rfl) (by kernel_rfl) (fun _ _ _ _ h => h) (yh_move rfl rfl) ?_
      refine wd_take (i := 5) [] rfl rfl rfl rfl rfl (by kernel_rfl) (by kernel_rfl) (fun _ _ _ _ h => h) (yh_move rfl rfl) ?_
      obtain ⟨y22, hy22, h⟩ := bd h
      obtain ⟨b22, o22, ha22⟩ := sl_addr h_s2 hy22
      subst ha22
      have hc22 := get_str h_s2 hy22
      refine wd_take (i := 6) [] rfl rfl rfl rfl rfl (by kernel_rfl) (by kernel_rfl) (fun _ _ _ _ h => h) (yh_idx Tb (k := s13) rfl rfl rfl rfl (get_lt hy22) rfl rfl) ?_
      refine wd_take (i := 7) [] rfl rfl rfl rfl rfl (by kernel_rfl) (by kernel_rfl) (fun _ _ _ _ h => h) (yh_loadA0 Tb rfl rfl rfl hc22 rfl) ?_
      refine wd_take (i := 8) [] rfl rfl rfl rfl rfl (by kernel_rfl) (by kernel_rfl) (fun _ _ _ _ h => h) (yh_cmpS rfl rfl rfl rfl) ?_
      refine wd_done (by kernel_rfl) ?_
      refine ex_seq ?_
      refine cw_split rfl (fun c3 => ?_) (fun c3 => ?_)
      · skip
        replace h := bt c3 h
        refine cw_seq ?_
        refine cw_region ?_
        refine wl_u rfl (ow_y (yh_assign rfl rfl) rfl rfl (kk_wl ?_))
        refine wl_nil ?_
        refine ex_seq ?_
        refine cw_ret ?_
        refine ex_block_ret ?_
        refine ex_then_ret ?_
        refine ex_then_ret ?_
        refine ex_block_ret ?_
        refine ex_then_ret ?_
        obtain rfl := Option.some.inj h
        obtain rfl := go_ret hk8
        exact ex_r1 Tb rfl (.tmp rfl) (fun wq hq => ⟨_, rfl, hq.ext, rfl⟩)
      · skip
        replace h := bf c3 h
        refine cw_skip ?_
        refine ex_block_normal ?_
        refine ex_seq ?_
        refine cw_region ?_
        refine wl_u rfl (ow_y (yh_arI rfl rfl rfl rfl (by omega)) rfl rfl (kk_wl ?_))
        refine wl_u rfl (ow_y (yh_move rfl rfl) rfl rfl (kk_wl ?_))
        refine wl_nil ?_
        exact ex_next [] (hn8 (n8, s13 + 1) (Nat.lt_succ_self _) h) ⟨rfl, rfl, rfl, rfl, trivial⟩ (by kernel_rfl)
    · skip
      replace h := bf c2 h
      have q4 := ltb_false.1 c2
      refine cw_exit ?_
      refine ex_then_exit ?_
      refine ex_then_exit ?_
      obtain rfl := Option.some.inj h
      have h := go_brk hk8
      refine ex_block_exit ?_
      refine ex_seq ?_
      refine cw_seq ?_
      refine cw_region ?_
      refine wl_u rfl (ow_y (yh_assign rfl rfl) rfl rfl (kk_wl ?_))
      refine wl_nil ?_
      refine ex_seq ?_
      refine cw_ret ?_
      obtain rfl := Option.some.inj h
      exact ex_r1 Tb rfl (.tmp rfl) (fun wq hq => ⟨_, rfl, hq.ext, rfl⟩)

def m_slices_Reverse_string_L3 (N : Nat) : Nat → (List Str) → Int → Int → Option (Ex (List Str × Int × Int) ((Unit) × (List Str)))
  | 0, _, _, _ => none
  | n + 1, s0, s2, s3 => (bif ltb s2 s3 then (geti s0 s3).bind fun y20 => (geti s0 s2).bind fun y24 => (geti (s0.set s2.toNat y20) s3).bind fun y27 => m_slices_Reverse_string_L3 N n ((s0.set s2.toNat y20).set s3.toNat y24) (w64 (s2 + 1)) (w64 (s3 - 1))
 else some (Ex.brk (s0, s2, s3)))

def m_slices_Reverse_string (N : Nat) (s_ : List Str) : Option ((Unit) × (List Str)) := (m_slices_Reverse_string_L3 N N s_ 0 (((s_.length : Nat) : Int) - 1)).bind fun e3 => e3.go (fun r => r) fun b3 => some ((), b3.1)

set_option maxHeartbeats 4000000 in
theorem c_slices_Reverse_string (N : Nat) (s_ : List Str) (res : (Unit) × (List Str)) (h : m_slices_Reverse_string N s_ = some res) (w : World) {a_s_ : Option Addr} {c_s_ : Nat} {F_s_ : List Nat} (hr : (owC strsL F_s_ [.slice a_s_ s_.length c_s_] s_).A w) (hnd : F_s_.Nodup) : Ret Tryz.prog 41 [.slice a_s_ s_.length c_s_] w F_s_ fun v w' => ∃ F0, v = .tuple #[] ∧ NewM w w' F_s_ [owC strsL F0 [.slice a_s_ s_.length c_s_] res.2] := by
  unfold m_slices_Reverse_string at h
  refine ret_enter Tryz.func41 rfl Tryz.ntmps41 rfl (hp_one hr hnd) ?_
  refine cw_seq ?_
  refine cw_region ?_
  refine wl_u rfl (ow_y (yh_move rfl rfl) rfl rfl (kk_wl ?_))
  refine wl_know (s_.length ≤ 9223372036854775807) (fun w hw => own_max 0 rfl hw) (fun mo5 => ?_)
  refine wl_u rfl (ow_y (yh_lenS Tb rfl rfl rfl rfl) rfl rfl (kk_wl ?_))
  refine wl_u rfl (ow_y (yh_arI rfl rfl rfl rfl (by omega)) rfl rfl (kk_wl ?_))
  refine wl_u rfl (ow_y (yh_assign rfl rfl) rfl rfl (kk_wl ?_))
  refine wl_u rfl (ow_y (yh_assign rfl rfl) rfl rfl (kk_wl ?_))
  refine wl_nil ?_
  refine ex_seq ?_
  refine cw_block ?_
  obtain ⟨e3, he3, hk3⟩ := bd h
  clear h
  refine cw_loopG (σ := Nat × (List Str) × Int × Int × (List Nat)) (fun s => m_slices_Reverse_string_L3 N s.1 s.2.1 s.2.2.1 s.2.2.2.1 = some e3) (fun s => [(0, .slice a_s_ s_.length c_s_), (2, .int .i64 s.2.2.1), (3, .int .i64 s.2.2.2.1)]) (fun s => [owC strsL s.2.2.2.2 [.slice a_s_ s_.length c_s_] s.2.1]) (fun s => s.1) (N, s_, 0, ((s_.length : Nat) : Int) - 1, F_s_) [0] he3 ⟨rfl, rfl, rfl, trivial⟩ rfl (fun KL s he3 hn3 => ?_)
  obtain ⟨n3, s0, s2, s3, Fs0⟩ := s
  simp only at he3 hn3 ⊢
  rcases n3 with _ | n3
  · exact nosome he3
  have h := he3; rw [m_slices_Reverse_string_L3] at h
  refine cw_seq ?_
  refine cw_seq ?_
  refine cw_region ?_
  refine wl_u rfl (ow_y (yh_move rfl rfl) rfl rfl (kk_wl ?_))
  refine wl_u rfl (ow_y (yh_move rfl rfl) rfl rfl (kk_wl ?_))
  refine wl_u rfl (ow_y (yh_cmpI rfl rfl rfl rfl) rfl rfl (kk_wl ?_))
  refine wl_nil ?_
  refine ex_seq ?_
  refine cw_split rfl (fun c1 => ?_) (fun c1 => ?_)
  · skip
    replace h := bt c1 h
    have q1 := ltb_true.1 c1
    refine cw_skip ?_
    refine ex_seq ?_
    refine cw_seq ?_
    refine cw_block ?_
    refine cw_dr [0, 1, 2, 3, 4, 5, 8, 9] [] [] (by kernel_rfl) ?_
    obtain ⟨y20, zy20, h⟩ := bd h
    obtain ⟨iy20, hy20⟩ := geti_some zy20
    refine wd_ex (fun g => a_s_ = some ⟨g, 0, none⟩) (fun w hw => by exact own_addrK 0 rfl hy20 hw) (fun g20 hg20 => ?_)
    subst hg20
    obtain ⟨y24, zy24, h⟩ := bd h
    obtain ⟨iy24, hy24⟩ := geti_some zy24
    refine wd_take (i := 0) [] rfl rfl rfl rfl rfl (by kernel_rfl) (by kernel_rfl) (fun _ _ _ _ h => h) (yh_move rfl rfl) ?_
    refine wd_take (i := 1) [] rfl rfl rfl rfl rfl (by kernel_rfl) (by kernel_rfl) (fun _ _ _ _ h => h) (yh_move rfl rfl) ?_
    refine wd_take (i := 2) [] rfl rfl rfl rfl rfl (by kernel_rfl) (by kernel_rfl) (fun _ _ _ _ h => h) (yh_move rfl rfl) ?_
    refine wd_take (i := 3) [] rfl rfl rfl rfl rfl (by kernel_rfl) (by kernel_rfl) (fun _ _ _ _ h => h) (yh_move rfl rfl) ?_
    refine wd_take (i := 4) [] rfl rfl rfl rfl rfl (by kernel_rfl) (by kernel_rfl) (fun _ _ _ _ h => h) (yh_move rfl rfl) ?_
    refine wd_take (i := 5) [] rfl rfl rfl rfl rfl (by kernel_rfl) (by kernel_rfl) (fun _ _ _ _ h => h) (yh_move rfl rfl) ?_
    refine wd_take (i := 8) [] rfl rfl rfl rfl rfl (by kernel_rfl) (by kernel_rfl) (fun _ _ _ _ h => h) (yh_move rfl rfl) ?_
    refine wd_take (i := 9) [] rfl rfl rfl rfl rfl (by kernel_rfl) (by kernel_rfl) (fun _ _ _ _ h => h) (yh_move rfl rfl) ?_
    refine wd_all [6, 10] (by kernel_rfl) (by simp) (fun i hi => ?_)
    simp only [List.mem_cons, List.not_mem_nil, or_false] at hi
    rcases hi with rfl | rfl
    · refine ⟨_, rfl, rfl, ?_⟩
      refine ow_know (s_.length = s0.length) (fun w hw => own_lenK 0 rfl hw) (fun hn20 => ?_)
      refine (ow_y (yh_idx Tb (k := s3.toNat) rfl rfl rfl iy20 (Nat.lt_of_lt_of_eq (get_lt hy20) hn20.symm) rfl rfl) rfl rfl (kk_wd [] (by kernel_rfl) ?_))
      refine wd_all [7, 10] (by kernel_rfl) (by simp) (fun i hi => ?_)
      simp only [List.mem_cons, List.not_mem_nil, or_false] at hi
      rcases hi with rfl | rfl
      · refine ⟨_, rfl, rfl, ?_⟩
        refine (ow_y (yh_loadO0 Tb 0 rfl rfl rfl rfl rfl hy20 rfl) rfl rfl (kk_wd [] (by kernel_rfl) ?_))
        refine wd_know (s_.length = s0.length) (fun w hw => own_lenK 0 rfl hw) (fun hn24 => ?_)
        refine wd_one 10 rfl rfl (by kernel_rfl) (ow_y (yh_idx Tb (k := s2.toNat) rfl rfl rfl iy24 (Nat.lt_of_lt_of_eq (get_lt hy24) hn24.symm) rfl rfl) rfl rfl (kk_wd [] (by kernel_rfl) ?_))
        refine wd_one 11 rfl rfl (by kernel_rfl) (ow_y (yh_loadO0 Tb 0 rfl rfl rfl rfl rfl hy24 rfl) rfl rfl (kk_wd [] (by kernel_rfl) ?_))
        refine wd_know (s_.length = s0.length) (fun w hw => own_lenK 0 rfl hw) (fun hn26 => ?_)
        refine wd_one 12 rfl rfl (by kernel_rfl) (ow_y (yh_idx Tb (k := s2.toNat) rfl rfl rfl iy24 (Nat.lt_of_lt_of_eq (get_lt hy24) hn26.symm) rfl rfl) rfl rfl (kk_wd [] (by kernel_rfl) ?_))
        refine wd_one 13 rfl rfl (by kernel_rfl) (ow_setP Tb (u := y20) 0 rfl rfl rfl rfl rfl (get_lt hy24) rfl rfl (fun Fs55 => kk_wd [] (by kernel_rfl) ?_))
        obtain ⟨y27, zy27, h⟩ := bd h
        obtain ⟨iy27, hy27⟩ := geti_some zy27
        refine wd_know (s_.length = (s0.set s2.toNat y20).length) (fun w hw => own_lenK 0 rfl hw) (fun hn27 => ?_)
        refine wd_one 14 rfl rfl (by kernel_rfl) (ow_y (yh_idx Tb (k := s3.toNat) rfl rfl rfl iy27 (Nat.lt_of_lt_of_eq (get_lt hy27) hn27.symm) rfl rfl) rfl rfl (kk_wd [] (by kernel_rfl) ?_))
        refine wd_one 15 rfl rfl (by kernel_rfl) (ow_setP Tb (u := y24) 0 rfl rfl rfl rfl rfl (get_lt hy27) rfl rfl (fun Fs57 => kk_wd [] (by kernel_rfl) ?_))
        refine wd_done (by kernel_rfl) ?_
        refine ex_block_normal ?_
        refine ex_seq ?_
        refine cw_region ?_
        refine wl_u rfl (ow_y (yh_move rfl rfl) rfl rfl (kk_wl ?_))
        refine wl_u rfl (ow_y (yh_arW rfl rfl rfl rfl) rfl rfl (kk_wl ?_))
        refine wl_u rfl (ow_y (yh_move rfl rfl) rfl rfl (kk_wl ?_))
        refine wl_u rfl (ow_y (yh_arW rfl rfl rfl rfl) rfl rfl (kk_wl ?_))
        refine wl_u rfl (ow_y (yh_assign rfl rfl) rfl rfl (kk_wl ?_))
        refine wl_u rfl (ow_y (yh_assign rfl rfl) rfl rfl (kk_wl ?_))
        refine wl_nil ?_
        exact ex_next [0] (hn3 (n3, ((s0.set s2.toNat y20).set s3.toNat y24), w64 (s2 + 1), w64 (s3 - 1), Fs57) (Nat.lt_succ_self _) h) ⟨rfl, rfl, rfl, trivial⟩ (by kernel_rfl)
      · refine ⟨_, rfl, rfl, ?_⟩
        refine ow_know (s_.length = s0.length) (fun w hw => own_lenK 0 rfl hw) (fun hn24 => ?_)
        refine (ow_y (yh_idx Tb (k := s2.toNat) rfl rfl rfl iy24 (Nat.lt_of_lt_of_eq (get_lt hy24) hn24.symm) rfl rfl) rfl rfl (kk_wd [] (by kernel_rfl) ?_))
        refine wd_all [7, 11] (by kernel_rfl) (by simp) (fun i hi => ?_)
        simp only [List.mem_cons, List.not_mem_nil, or_false] at hi
        rcases hi with rfl | rfl
        · refine ⟨_, rfl, rfl, ?_⟩
          refine (ow_y (yh_loadO0 Tb 0 rfl rfl rfl rfl rfl hy20 rfl) rfl rfl (kk_wd [] (by kernel_rfl) ?_))
          refine wd_one 11 rfl rfl (by kernel_rfl) (ow_y (yh_loadO0 Tb 0 rfl rfl rfl rfl rfl hy24 rfl) rfl rfl (kk_wd [] (by kernel_rfl) ?_))
          refine wd_know (s_.length = s0.length) (fun w hw => own_lenK 0 rfl hw) (fun hn26 => ?_)
          refine wd_one 12 rfl rfl (by kernel_rfl) (ow_y (yh_idx Tb (k := s2.toNat) rfl rfl rfl iy24 (Nat.lt_of_lt_of_eq (get_lt hy24) hn26.symm) rfl rfl) rfl rfl (kk_wd [] (by kernel_rfl) ?_))
          refine wd_one 13 rfl rfl (by kernel_rfl) (ow_setP Tb (u := y20) 0 rfl rfl rfl rfl rfl (get_lt hy24) rfl rfl (fun Fs59 => kk_wd [] (by kernel_rfl) ?_))
          obtain ⟨y27, zy27, h⟩ := bd h
          obtain ⟨iy27, hy27⟩ := geti_some zy27
          refine wd_know (s_.length = (s0.set s2.toNat y20).length) (fun w hw => own_lenK 0 rfl hw) (fun hn27 => ?_)
          refine wd_one 14 rfl rfl (by kernel_rfl) (ow_y (yh_idx Tb (k := s3.toNat) rfl rfl rfl iy27 (Nat.lt_of_lt_of_eq (get_lt hy27) hn27.symm) rfl rfl) rfl rfl (kk_wd [] (by kernel_rfl) ?_))
          refine wd_one 15 rfl rfl (by kernel_rfl) (ow_setP Tb (u := y24) 0 rfl rfl rfl rfl rfl (get_lt hy27) rfl rfl (fun Fs61 => kk_wd [] (by kernel_rfl) ?_))
          refine wd_done (by kernel_rfl) ?_
          refine ex_block_normal ?_
          refine ex_seq ?_
          refine cw_region ?_
          refine wl_u rfl (ow_y (yh_move rfl rfl) rfl rfl (kk_wl ?_))
          refine wl_u rfl (ow_y (yh_arW rfl rfl rfl rfl) rfl rfl (kk_wl ?_))
          refine wl_u rfl (ow_y (yh_move rfl rfl) rfl rfl (kk_wl ?_))
          refine wl_u rfl (ow_y (yh_arW rfl rfl rfl rfl) rfl rfl (kk_wl ?_))
          refine wl_u rfl (ow_y (yh_assign rfl rfl) rfl rfl (kk_wl ?_))
          refine wl_u rfl (ow_y (yh_assign rfl rfl) rfl rfl (kk_wl ?_))
          refine wl_nil ?_
          exact ex_next [0] (hn3 (n3, ((s0.set s2.toNat y20).set s3.toNat y24), w64 (s2 + 1), w64 (s3 - 1), Fs61) (Nat.lt_succ_self _) h) ⟨rfl, rfl, rfl, trivial⟩ (by kernel_rfl)
        · refine ⟨_, rfl, rfl, ?_⟩
          refine (ow_y (yh_loadO0 Tb 0 rfl rfl rfl rfl rfl hy24 rfl) rfl rfl (kk_wd [] (by kernel_rfl) ?_))
          refine wd_one 7 rfl rfl (by kernel_rfl) (ow_y (yh_loadO0 Tb 0 rfl rfl rfl rfl rfl hy20 rfl) rfl rfl (kk_wd [] (by kernel_rfl) ?_))
          refine wd_know (s_.length = s0.length) (fun w hw => own_lenK 0 rfl hw) (fun hn26 => ?_)
          refine wd_one 12 rfl rfl (by kernel_rfl) (ow_y (yh_idx Tb (k := s2.toNat) rfl rfl rfl iy24 (Nat.lt_of_lt_of_eq (get_lt hy24) hn26.symm) rfl rfl) rfl rfl (kk_wd [] (by kernel_rfl) ?_))
          refine wd_one 13 rfl rfl (by kernel_rfl) (ow_setP Tb (u := y20) 0 rfl rfl rfl rfl rfl (get_lt hy24) rfl rfl (fun Fs63 => kk_wd [] (by kernel_rfl) ?_))
          obtain ⟨y27, zy27, h⟩ := bd h
          obtain ⟨iy27, hy27⟩ := geti_some zy27
          refine wd_know (s_.length = (s0.set s2.toNat y20).length) (fun w hw => own_lenK 0 rfl hw) (fun hn27 => ?_)
          refine wd_one 14 rfl rfl (by kernel_rfl) (ow_y (yh_idx Tb (k := s3.toNat) rfl rfl rfl iy27 (Nat.lt_of_lt_of_eq (get_lt hy27) hn27.symm) rfl rfl) rfl rfl (kk_wd [] (by kernel_rfl) ?_))
          refine wd_one 15 rfl rfl (by kernel_rfl) (ow_setP Tb (u := y24) 0 rfl rfl rfl rfl rfl (get_lt hy27) rfl rfl (fun Fs65 => kk_wd [] (by kernel_rfl) ?_))
          refine wd_done (by kernel_rfl) ?_
          refine ex_block_normal ?_
          refine ex_seq ?_
          refine cw_region ?_
          refine wl_u rfl (ow_y (yh_move rfl rfl) rfl rfl (kk_wl ?_))
          refine wl_u rfl (ow_y (yh_arW rfl rfl rfl rfl) rfl rfl (kk_wl ?_))
          refine wl_u rfl (ow_y (yh_move rfl rfl) rfl rfl (kk_wl ?_))
          refine wl_u rfl (ow_y (yh_arW rfl rfl rfl rfl) rfl rfl (kk_wl ?_))
          refine wl_u rfl (ow_y (yh_assign rfl rfl) rfl rfl (kk_wl ?_))
          refine wl_u rfl (ow_y (yh_assign rfl rfl) rfl rfl (kk_wl ?_))
          refine wl_nil ?_
          exact ex_next [0] (hn3 (n3, ((s0.set s2.toNat y20).set s3.toNat y24), w64 (s2 + 1), w64 (s3 - 1), Fs65) (Nat.lt_succ_self _) h) ⟨rfl, rfl, rfl, trivial⟩ (by kernel_rfl)
    · refine ⟨_, rfl, rfl, ?_⟩
      refine ow_know (s_.length = s0.length) (fun w hw => own_lenK 0 rfl hw) (fun hn24 => ?_)
      refine (ow_y (yh_idx Tb (k := s2.toNat) rfl rfl rfl iy24 (Nat.lt_of_lt_of_eq (get_lt hy24) hn24.symm) rfl rfl) rfl rfl (kk_wd [] (by kernel_rfl) ?_))
      refine wd_all [6, 11] (by kernel_rfl) (by simp) (fun i hi => ?_)
      simp only [List.mem_cons, List.not_mem_nil, or_false] at hi
      rcases hi with rfl | rfl
      · refine ⟨_, rfl, rfl, ?_⟩
        refine ow_know (s_.length = s0.length) (fun w hw => own_lenK 0 rfl hw) (fun hn20 => ?_)
        refine (ow_y (yh_idx Tb (k := s3.toNat) rfl rfl rfl iy20 (Nat.lt_of_lt_of_eq (get_lt hy20) hn20.symm) rfl rfl) rfl rfl (kk_wd [] (by kernel_rfl) ?_))
        refine wd_all [7, 11] (by kernel_rfl) (by simp) (fun i hi => ?_)
        simp only [List.mem_cons, List.not_mem_nil, or_false] at hi
        rcases hi with rfl | rfl
        · refine ⟨_, rfl, rfl, ?_⟩
          refine (ow_y (yh_loadO0 Tb 0 rfl rfl rfl rfl rfl hy20 rfl) rfl rfl (kk_wd [] (by kernel_rfl) ?_))
          refine wd_one 11 rfl rfl (by kernel_rfl) (ow_y (yh_loadO0 Tb 0 rfl rfl rfl rfl rfl hy24 rfl) rfl rfl (kk_wd [] (by kernel_rfl) ?_))
          refine wd_know (s_.length = s0.length) (fun w hw => own_lenK 0 rfl hw) (fun hn26 => ?_)
          refine wd_one 12 rfl rfl (by kernel_rfl) (ow_y (yh_idx Tb (k := s2.toNat) rfl rfl rfl iy24 (Nat.lt_of_lt_of_eq (get_lt hy24) hn26.symm) rfl rfl) rfl rfl (kk_wd [] (by kernel_rfl) ?_))
          refine wd_one 13 rfl rfl (by kernel_rfl) (ow_setP Tb (u := y20) 0 rfl rfl rfl rfl rfl (get_lt hy24) rfl rfl (fun Fs67 => kk_wd [] (by kernel_rfl) ?_))
          obtain ⟨y27, zy27, h⟩ := bd h
          obtain ⟨iy27, hy27⟩ := geti_some zy27
          refine wd_know (s_.length = (s0.set s2.toNat y20).length) (fun w hw => own_lenK 0 rfl hw) (fun hn27 => ?_)
          refine wd_one 14 rfl rfl (by kernel_rfl) (ow_y (yh_idx Tb (k := s3.toNat) rfl rfl rfl iy27 (Nat.lt_of_lt_of_eq (get_lt hy27) hn27.symm) rfl rfl) rfl rfl (kk_wd [] (by kernel_rfl) ?_))
          refine wd_one 15 rfl rfl (by kernel_rfl) (ow_setP Tb (u := y24) 0 rfl rfl rfl rfl rfl (get_lt hy27) rfl rfl (fun Fs69 => kk_wd [] (by kernel_rfl) ?_))
          refine wd_done (by kernel_rfl) ?_
          refine ex_block_normal ?_
          refine ex_seq ?_
          refine cw_region ?_
          refine wl_u rfl (ow_y (yh_move rfl rfl) rfl rfl (kk_wl ?_))
          refine wl_u rfl (ow_y (yh_arW rfl rfl rfl rfl) rfl rfl (kk_wl ?_))
          refine wl_u rfl (ow_y (yh_move rfl rfl) rfl rfl (kk_wl ?_))
          refine wl_u rfl (ow_y (yh_arW rfl rfl rfl rfl) rfl rfl (kk_wl ?_))
          refine wl_u rfl (ow_y (yh_assign rfl rfl) rfl rfl (kk_wl ?_))
          refine wl_u rfl (ow_y (yh_assign rfl rfl) rfl rfl (kk_wl ?_))
          refine wl_nil ?_
          exact ex_next [0] (hn3 (n3, ((s0.set s2.toNat y20).set s3.toNat y24), w64 (s2 + 1), w64 (s3 - 1), Fs69) (Nat.lt_succ_self _) h) ⟨rfl, rfl, rfl, trivial⟩ (by kernel_rfl)
        · refine ⟨_, rfl, rfl, ?_⟩
          refine (ow_y (yh_loadO0 Tb 0 rfl rfl rfl rfl rfl hy24 rfl) rfl rfl (kk_wd [] (by kernel_rfl) ?_))
          refine wd_one 7 rfl rfl (by kernel_rfl) (ow_y (yh_loadO0 Tb 0 rfl rfl rfl rfl rfl hy20 rfl) rfl rfl (kk_wd [] (by kernel_rfl) ?_))
          refine wd_know (s_.length = s0.length) (fun w hw => own_lenK 0 rfl hw) (fun hn26 => ?_)
          refine wd_one 12 rfl rfl (by kernel_rfl) (ow_y (yh_idx Tb (k := s2.toNat) rfl rfl rfl iy24 (Nat.lt_of_lt_of_eq (get_lt hy24) hn26.symm) rfl rfl) rfl rfl (kk_wd [] (by kernel_rfl) ?_))
          refine wd_one 13 rfl rfl (by kernel_rfl) (ow_setP Tb (u := y20) 0 rfl rfl rfl rfl rfl (get_lt hy24) rfl rfl (fun Fs71 => kk_wd [] (by kernel_rfl) ?_))
          obtain ⟨y27, zy27, h⟩ := bd h
          obtain ⟨iy27, hy27⟩ := geti_some zy27
          refine wd_know (s_.length = (s0.set s2.toNat y20).length) (fun w hw => own_lenK 0 rfl hw) (fun hn27 => ?_)
          refine wd_one 14 rfl rfl (by kernel_rfl) (ow_y (yh_idx Tb (k := s3.toNat) rfl rfl rfl iy27 (Nat.lt_of_lt_of_eq (get_lt hy27) hn27.symm) rfl rfl) rfl rfl (kk_wd [] (by kernel_rfl) ?_))
          refine wd_one 15 rfl rfl (by kernel_rfl) (ow_setP Tb (u := y24) 0 rfl rfl rfl rfl rfl (get_lt hy27) rfl rfl (fun Fs73 => kk_wd [] (by kernel_rfl) ?_))
          refine wd_done (by kernel_rfl) ?_
          refine ex_block_normal ?_
          refine ex_seq ?_
          refine cw_region ?_
          refine wl_u rfl (ow_y (yh_move rfl rfl) rfl rfl (kk_wl ?_))
          refine wl_u rfl (ow_y (yh_arW rfl rfl rfl rfl) rfl rfl (kk_wl ?_))
          refine wl_u rfl (ow_y (yh_move rfl rfl) rfl rfl (kk_wl ?_))
          refine wl_u rfl (ow_y (yh_arW rfl rfl rfl rfl) rfl rfl (kk_wl ?_))
          refine wl_u rfl (ow_y (yh_assign rfl rfl) rfl rfl (kk_wl ?_))
          refine wl_u rfl (ow_y (yh_assign rfl rfl) rfl rfl (kk_wl ?_))
          refine wl_nil ?_
          exact ex_next [0] (hn3 (n3, ((s0.set s2.toNat y20).set s3.toNat y24), w64 (s2 + 1), w64 (s3 - 1), Fs73) (Nat.lt_succ_self _) h) ⟨rfl, rfl, rfl, trivial⟩ (by kernel_rfl)
      · refine ⟨_, rfl, rfl, ?_⟩
        refine (ow_y (yh_loadO0 Tb 0 rfl rfl rfl rfl rfl hy24 rfl) rfl rfl (kk_wd [] (by kernel_rfl) ?_))
        refine wd_know (s_.length = s0.length) (fun w hw => own_lenK 0 rfl hw) (fun hn20 => ?_)
        refine wd_one 6 rfl rfl (by kernel_rfl) (ow_y (yh_idx Tb (k := s3.toNat) rfl rfl rfl iy20 (Nat.lt_of_lt_of_eq (get_lt hy20) hn20.symm) rfl rfl) rfl rfl (kk_wd [] (by kernel_rfl) ?_))
        refine wd_one 7 rfl rfl (by kernel_rfl) (ow_y (yh_loadO0 Tb 0 rfl rfl rfl rfl rfl hy20 rfl) rfl rfl (kk_wd [] (by kernel_rfl) ?_))
        refine wd_know (s_.length = s0.length) (fun w hw => own_lenK 0 rfl hw) (fun hn26 => ?_)
        refine wd_one 12 rfl rfl (by kernel_rfl) (ow_y (yh_idx Tb (k := s2.toNat) rfl rfl rfl iy24 (Nat.lt_of_lt_of_eq (get_lt hy24) hn26.symm) rfl rfl) rfl rfl (kk_wd [] (by kernel_rfl) ?_))
        refine wd_one 13 rfl rfl (by kernel_rfl) (ow_setP Tb (u := y20) 0 rfl rfl rfl rfl rfl (get_lt hy24) rfl rfl (fun Fs75 => kk_wd [] (by kernel_rfl) ?_))
        obtain ⟨y27, zy27, h⟩ := bd h
        obtain ⟨iy27, hy27⟩ := geti_some zy27
        refine wd_know (s_.length = (s0.set s2.toNat y20).length) (fun w hw => own_lenK 0 rfl hw) (fun hn27 => ?_)
        refine wd_one 14 rfl rfl (by kernel_rfl) (ow_y (yh_idx Tb (k := s3.toNat) rfl rfl rfl iy27 (Nat.lt_of_lt_of_eq (get_lt hy27) hn27.symm) rfl rfl) rfl rfl (kk_wd [] (by kernel_rfl) ?_))
        refine wd_one 15 rfl rfl (by kernel_rfl) (ow_setP Tb (u := y24) 0 rfl rfl rfl rfl rfl (get_lt hy27) rfl rfl (fun Fs77 => kk_wd [] (by kernel_rfl) ?_))
        refine wd_done (by kernel_rfl) ?_
        refine ex_block_normal ?_
        refine ex_seq ?_
        refine cw_region ?_
        refine wl_u rfl (ow_y (yh_move rfl rfl) rfl rfl (kk_wl ?_))
        refine wl_u rfl (ow_y (yh_arW rfl rfl rfl rfl) rfl rfl (kk_wl ?_))
        refine wl_u rfl (ow_y (yh_move rfl rfl) rfl rfl (kk_wl ?_))
        refine wl_u rfl (ow_y (yh_arW rfl rfl rfl rfl) rfl rfl (kk_wl ?_))
        refine wl_u rfl (ow_y (yh_assign rfl rfl) rfl rfl (kk_wl ?_))
        refine wl_u rfl (ow_y (yh_assign rfl rfl) rfl rfl (kk_wl ?_))
        refine wl_nil ?_
        exact ex_next [0] (hn3 (n3, ((s0.set s2.toNat y20).set s3.toNat y24), w64 (s2 + 1), w64 (s3 - 1), Fs77) (Nat.lt_succ_self _) h) ⟨rfl, rfl, rfl, trivial⟩ (by kernel_rfl)
  · skip
    replace h := bf c1 h
    have q2 := ltb_false.1 c1
    refine cw_exit ?_
    refine ex_then_exit ?_
    refine ex_then_exit ?_
    obtain rfl := Option.some.inj h
    have h := go_brk hk3
    refine ex_block_exit ?_
    obtain rfl := Option.some.inj h
    exact ex_n0 rfl (fun wq hq => ⟨_, rfl, hq.ext, ⟨Fs0, rfl, NewM.sel [0] hq rfl⟩⟩)

end Go.Proofs.YtmnhnldnnniglaaGreat
