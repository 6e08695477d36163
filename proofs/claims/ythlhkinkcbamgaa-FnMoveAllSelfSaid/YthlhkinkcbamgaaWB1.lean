/- Mirrors and contracts, printed by a program: what each function computes as a plain term, and that it does. -/
import Derived.Test.YthlhkinkcbamgaaR
import Derived.Test.YthlhkinkcbamgaaD
import Derived.Test.YthlhkinkcbamgaaWB0
set_option linter.all false
set_option maxRecDepth 100000
namespace Go.Proofs.Ythlhkinkcbamgaa
open Go.RowKit

def m_spec_l91Run_L10 (N : Nat) (cd : List UInt8) (u1 : Flow) (x25 : (Int) × Nat) : Nat → Nat → Int → (List Str) → Int → Option (Ex (Nat × Int × List Str × Int) ((Run) × Nat))
  | 0, _, _, _, _ => none
  | n + 1, s0_c_1, s5_c_0, s5_c_1, s8 => (bif ltb s8 x25.1 then (m_spec_FlowReady N u1 s5_c_1).bind fun x34 => ((bif ltb 0 ((x34.length : Nat) : Int) then some (eqb s5_c_0 0)
 else some false) : Option (Bool)).bind fun j115 => (bif j115 then (m_spec_l6Rd_pick N cd s0_c_1 ((x34.length : Nat) : Int)).bind fun x50 => (geti x34 x50.1).bind fun y51 => (m_spec_RunDo N u1 (Run.mk s5_c_0 s5_c_1) y51).bind fun x53 => m_spec_l91Run_L10 N cd u1 x25 n x50.2 x53.1.state x53.1.done (w64 (s8 + 1))
 else m_spec_l91Run_L10 N cd u1 x25 n s0_c_1 s5_c_0 s5_c_1 (w64 (s8 + 1)))
 else some (Ex.brk (s0_c_1, s5_c_0, s5_c_1, s8)))

def m_spec_l91Run (N : Nat) (cd : List UInt8) (p : Nat) (u1 : Flow) : Option ((Run) × Nat) := (m_spec_RunNew N u1).bind fun x14 => (bif !x14.2 then some ((Run.mk 0 []), p)
 else (lsz u1.steps.length).bind fun v24_ => (m_spec_l6Rd_pick N cd p (((u1.steps.length : Nat) : Int) + 2)).bind fun x25 => (m_spec_l91Run_L10 N cd u1 x25 N x25.2 x14.1.state x14.1.done 0).bind fun e10 => e10.go (fun r => r) fun b10 => ((bif eqb b10.2.1 0 then (m_spec_l6Rd_pick N cd b10.1 3).bind fun x62 => (bif eqb x62.1 0 then (m_spec_l3Back N u1 b10.2.2.1).bind fun x68 => some (x62.2, x68.state, x68.done)
 else some (x62.2, b10.2.1, b10.2.2.1))
 else some (b10.1, b10.2.1, b10.2.2.1)) : Option (Nat × Int × (List Str))).bind fun j118 => (m_spec_l6Rd_pick N cd j118.1 40).bind fun x70 => (bif eqb x70.1 0 then (m_spec_l6Rd_pick N cd x70.2 6).bind fun x74 => some ((Run.mk (w64 (x74.1 - 1)) j118.2.2), x74.2)
 else (bif eqb x70.1 1 then (appd j118.2.2 ([(⟨#[97]⟩ : Str)] : List Str)).bind fun l82 => some ((Run.mk j118.2.1 (j118.2.2 ++ ([(⟨#[97]⟩ : Str)] : List Str))), x70.2)
 else some ((Run.mk j118.2.1 j118.2.2), x70.2))))

set_option maxHeartbeats 4000000 in
theorem c_spec_l91Run (N : Nat) (cd : List UInt8) (p : Nat) (u1 : Flow) (res : (Run) × Nat) (h : m_spec_l91Run N cd p u1 = some res) (w : World) {a_u1_steps : Option Addr} {c_u1_steps : Nat} {u0 ccd : Nat} {acd : Option Addr} (hr : (blkC u0 113 [.slice acd cd.length ccd, .int .i64 ((p : Nat) : Int)]).A w) (hcd : bytesL.rd w [u0] [.slice acd cd.length ccd] cd) (h_u1_steps : stepsL.rd w [u0] [.slice a_u1_steps u1.steps.length c_u1_steps] u1.steps) : Ret Try.prog 111 [.pointer (some ⟨u0, 0, none⟩), .agg #[.int .i64 u1.ver, .slice a_u1_steps u1.steps.length c_u1_steps]] w [u0] fun v w' => ∃ a1 c1 F1, v = .agg #[.int .i64 res.1.state, .slice a1 res.1.done.length c1] ∧ NewM w w' [u0] [owC strsL F1 [.slice a1 res.1.done.length c1] res.1.done, blkC u0 113 [.slice acd cd.length ccd, .int .i64 ((res.2 : Nat) : Int)]] := by
  have mh_u1_steps := rd_max h_u1_steps
  have mhcd := rd_max hcd
  unfold m_spec_l91Run at h
  refine ret_enter Try.func111 rfl Try.ntmps111 rfl (hp_one hr (by simp [blkC])) ?_
  refine cw_seq ?_
  refine cw_region ?_
  refine wl_u rfl (ow_boxA rfl rfl rfl rfl (fun g3 => kk_wl ?_))
  refine wl_u rfl (ow_allocA Tb rfl rfl rfl rfl (fun g4 => kk_wl ?_))
  refine wl_nil ?_
  refine ex_seq ?_
  refine cw_seq ?_
  refine cw_region ?_
  refine wl_u rfl (ow_y (yh_loadBA Tb (k := 1) rfl rfl rfl rfl rfl rfl) rfl rfl (kk_wl ?_))
  obtain ⟨x14, hx14, h⟩ := bd h
  refine wl_u rfl (ow_cN1 rfl hb132 rfl (fun w hw => c_spec_RunNew N _ _ hx14 w (Lay.at_ h_u1_steps hw)) rfl rfl (fun a14 c14 F14 => kk_wl ?_))
  refine wl_u rfl (ow_y (yh_move rfl rfl) rfl rfl (kk_wl ?_))
  refine wl_u rfl (ow_y (yh_extract rfl rfl rfl) rfl rfl (kk_wl ?_))
  refine wl_u rfl (ow_y (yh_extract rfl rfl rfl) rfl rfl (kk_wl ?_))
  refine wl_u rfl (ow_allocA Tb rfl rfl rfl rfl (fun g5 => kk_wl ?_))
  refine wl_u rfl (ow_storeA Tb (k := 0) rfl rfl rfl rfl rfl rfl rfl rfl rfl (kk_wl ?_))
  refine wl_u rfl (ow_y (yh_assign rfl rfl) rfl rfl (kk_wl ?_))
  refine wl_nil ?_
  refine ex_seq ?_
  refine cw_seq ?_
  refine cw_seq ?_
  refine cw_region ?_
  refine wl_u rfl (ow_y (yh_move rfl rfl) rfl rfl (kk_wl ?_))
  refine wl_u rfl (ow_y (yh_not rfl rfl) rfl rfl (kk_wl ?_))
  refine wl_nil ?_
  refine ex_seq ?_
  refine cw_split rfl (fun c1 => ?_) (fun c1 => ?_)
  · skip
    replace h := bt c1 h
    refine cw_seq ?_
    refine cw_region ?_
    refine wl_u rfl (ow_y (yh_build [.int .i64 0, .slice none 0 0] rfl rfl (by kernel_rfl)) rfl rfl (kk_wl ?_))
    refine wl_u rfl (ow_storeA Tb (k := 2) rfl rfl rfl rfl rfl rfl rfl rfl rfl (kk_wl ?_))
    refine wl_nil ?_
    refine ex_seq ?_
    refine cw_ret ?_
    refine ex_then_ret ?_
    refine ex_nilS strsL rfl ?_
    obtain rfl := Option.some.inj h
    exact ex_r1 Tb rfl (.cellA 1 rfl rfl rfl rfl rfl) (fun wq hq => ⟨_, rfl, hq.ext, ⟨none, 0, [], rfl, NewM.sel [0, 5] hq rfl⟩⟩)
  · skip
    replace h := bf c1 h
    refine cw_skip ?_
    refine ex_seq ?_
    refine cw_seq ?_
    refine cw_region ?_
    refine wl_u rfl (ow_y (yh_move rfl rfl) rfl rfl (kk_wl ?_))
    refine wl_u rfl (ow_y (yh_field Tb rfl rfl rfl) rfl rfl (kk_wl ?_))
    refine wl_u rfl (ow_y (yh_loadB Tb (k := 3) rfl rfl rfl rfl rfl) rfl rfl (kk_wl ?_))
    refine wl_u rfl (ow_y (yh_lenS Tb rfl rfl rfl rfl) rfl rfl (kk_wl ?_))
    obtain ⟨v24_, hv24_, h⟩ := bd h
    have mv24_ := lsz_some hv24_
    refine wl_u rfl (ow_y (yh_arI rfl rfl rfl rfl (by omega)) rfl rfl (kk_wl ?_))
    obtain ⟨x25, hx25, h⟩ := bd h
    refine wl_u rfl (ow_cM0 4 rfl hb107 rfl rfl (fun w hw => c_spec_l6Rd_pick N _ _ _ _ hx25 w (hw.at (i := 4) rfl) (Lay.atR (i := 4) hcd rfl hw)) rfl rfl (kk_wl ?_))
    refine wl_u rfl (ow_y (yh_assign rfl rfl) rfl rfl (kk_wl ?_))
    refine wl_nil ?_
    refine ex_seq ?_
    refine cw_seq ?_
    refine cw_seq ?_
    refine cw_region ?_
    refine wl_u rfl (ow_y (yh_assign rfl rfl) rfl rfl (kk_wl ?_))
    refine wl_nil ?_
    refine ex_seq ?_
    refine cw_block ?_
    obtain ⟨e10, he10, hk10⟩ := bd h
    clear h
    refine cw_loopG (σ := Nat × Nat × Int × (List Str) × Int × (Option Addr) × Nat × (List Nat)) (fun s => m_spec_l91Run_L10 N cd u1 x25 s.1 s.2.1 s.2.2.1 s.2.2.2.1 s.2.2.2.2.1 = some e10) (fun s => [(0, .pointer (some ⟨u0, 0, none⟩)), (3, .pointer (some ⟨g3, 0, none⟩)), (4, .pointer (some ⟨g4, 0, none⟩)), (5, .pointer (some ⟨g5, 0, none⟩)), (7, .int .i64 x25.1), (8, .int .i64 s.2.2.2.2.1)]) (fun s => [blkC u0 113 [.slice acd cd.length ccd, .int .i64 ((s.2.1 : Nat) : Int)], blkC g3 25 [.int .i64 u1.ver, .slice a_u1_steps u1.steps.length c_u1_steps], blkC g4 28 [.int .i64 0, .slice none 0 0], blkC g5 28 [.int .i64 s.2.2.1, .slice s.2.2.2.2.2.1 s.2.2.2.1.length s.2.2.2.2.2.2.1], owC strsL s.2.2.2.2.2.2.2 [.slice s.2.2.2.2.2.1 s.2.2.2.1.length s.2.2.2.2.2.2.1] s.2.2.2.1]) (fun s => s.1) (N, x25.2, x14.1.state, x14.1.done, 0, a14, c14, F14) [0, 4, 3, 1, 2] he10 ⟨rfl, rfl, rfl, rfl, rfl, rfl, trivial⟩ rfl (fun KL s he10 hn10 => ?_)
    obtain ⟨n10, s0_c_1, s5_c_0, s5_c_1, s8, as5_c_1, cs5_c_1, Fs5_c_1⟩ := s
    simp only at he10 hn10 ⊢
    rcases n10 with _ | n10
    · exact nosome he10
    have h := he10; rw [m_spec_l91Run_L10] at h
    refine cw_seq ?_
    refine cw_seq ?_
    refine cw_region ?_
    refine wl_u rfl (ow_y (yh_move rfl rfl) rfl rfl (kk_wl ?_))
    refine wl_u rfl (ow_y (yh_move rfl rfl) rfl rfl (kk_wl ?_))
    refine wl_u rfl (ow_y (yh_cmpI rfl rfl rfl rfl) rfl rfl (kk_wl ?_))
    refine wl_nil ?_
    refine ex_seq ?_
    refine cw_split rfl (fun c2 => ?_) (fun c2 => ?_)
    · skip
      replace h := bt c2 h
      have q1 := ltb_true.1 c2
      refine cw_skip ?_
      refine ex_seq ?_
      refine cw_seq ?_
      refine cw_block ?_
      refine cw_seq ?_
      refine cw_region ?_
      refine wl_u rfl (ow_y (yh_loadBA Tb (k := 1) rfl rfl rfl rfl rfl rfl) rfl rfl (kk_wl ?_))
      refine wl_u rfl (ow_y (yh_field Tb rfl rfl rfl) rfl rfl (kk_wl ?_))
      refine wl_u rfl (ow_y (yh_loadB Tb (k := 3) rfl rfl rfl rfl rfl) rfl rfl (kk_wl ?_))
      obtain ⟨x34, hx34, h⟩ := bd h
      refine wl_u rfl (ow_cN1 rfl hb133 rfl (fun w hw => c_spec_FlowReady N _ _ _ hx34 w (Lay.at_ h_u1_steps hw) (rdo (A := strsL) 4 rfl hw)) rfl rfl (fun a34 c34 F34 => kk_wl ?_))
      refine wl_u rfl (ow_y (yh_assign rfl rfl) rfl rfl (kk_wl ?_))
      refine wl_nil ?_
      refine ex_seq ?_
      obtain ⟨j115, he115, hk115⟩ := bd h
      clear h
      refine cw_cut (σ := Unit) (fun s => True) (fun s => [(0, .pointer (some ⟨u0, 0, none⟩)), (3, .pointer (some ⟨g3, 0, none⟩)), (4, .pointer (some ⟨g4, 0, none⟩)), (5, .pointer (some ⟨g5, 0, none⟩)), (7, .int .i64 x25.1), (8, .int .i64 s8), (9, .slice a34 x34.length c34), (42, .bool j115)]) (fun s => [blkC u0 113 [.slice acd cd.length ccd, .int .i64 ((s0_c_1 : Nat) : Int)], blkC g3 25 [.int .i64 u1.ver, .slice a_u1_steps u1.steps.length c_u1_steps], blkC g4 28 [.int .i64 0, .slice none 0 0], blkC g5 28 [.int .i64 s5_c_0, .slice as5_c_1 s5_c_1.length cs5_c_1], owC strsL Fs5_c_1 [.slice as5_c_1 s5_c_1.length cs5_c_1] s5_c_1, owC strsL F34 [.slice a34 x34.length c34] x34]) (fun s hI => ?_) (fun KL hn115 => ?_)
      · skip
        have h := hk115
        refine cw_split rfl (fun c3 => ?_) (fun c3 => ?_)
        · skip
          replace h := bt c3 h
          refine cw_seq ?_
          refine cw_dr [0, 1, 2, 3, 4, 5, 7, 8, 10, 11, 12, 15] [] [blkC g3 25 [.int .i64 u1.ver, .slice a_u1_steps u1.steps.length c_u1_steps], blkC g4 28 [.int .i64 0, .slice none 0 0], blkC g5 28 [.int .i64 s5_c_0, .slice as5_c_1 s5_c_1.length cs5_c_1], owC strsL Fs5_c_1 [.slice as5_c_1 s5_c_1.length cs5_c_1] s5_c_1, owC strsL F34 [.slice a34 x34.length c34] x34] (by kernel_rfl) ?_
          refine wd_take (i := 0) [1, 2, 3, 4, 5] rfl rfl rfl rfl rfl (by kernel_rfl) (by kernel_rfl) (fun _ _ _ _ h => h) (yh_loadBA Tb (k := 0) rfl rfl rfl rfl rfl rfl) ?_
          refine wd_take (i := 1) [1, 2, 3, 4, 5] rfl rfl rfl rfl rfl (by kernel_rfl) (by kernel_rfl) (fun _ _ _ _ h => h) (yh_loadBA Tb (k := 2) rfl rfl rfl rfl rfl rfl) ?_
          refine wd_take (i := 2) [1, 2, 3, 4, 5] rfl rfl rfl rfl rfl (by kernel_rfl) (by kernel_rfl) (fun _ _ _ _ h => h) (yh_move rfl rfl) ?_
          refine wd_take (i := 3) [1, 2, 3, 4, 5] rfl rfl rfl rfl rfl (by kernel_rfl) (by kernel_rfl) (fun _ _ _ _ h => h) (yh_move rfl rfl) ?_
          refine wd_take (i := 4) [1, 2, 3, 4, 5] rfl rfl rfl rfl rfl (by kernel_rfl) (by kernel_rfl) (fun _ _ _ _ h => h) (yh_move rfl rfl) ?_
          refine wd_know (x34.length ≤ 9223372036854775807) (fun w hw => own_max 5 rfl hw) (fun mo49 => ?_)
          refine wd_take (i := 5) [1, 2, 3, 4, 5] rfl rfl rfl rfl rfl (by kernel_rfl) (by kernel_rfl) (fun _ _ _ _ h => h) (yh_lenS Tb rfl rfl rfl rfl) ?_
          refine wd_all [6, 13] (by kernel_rfl) (by simp) (fun i hi => ?_)
          simp only [List.mem_cons, List.not_mem_nil, or_false] at hi
          rcases hi with rfl | rfl
          · refine ⟨_, rfl, rfl, ?_⟩
            obtain ⟨x50, hx50, h⟩ := bd h
            refine (ow_cM0 0 rfl hb107 rfl rfl (fun w hw => c_spec_l6Rd_pick N _ _ _ _ hx50 w (hw.at (i := 0) rfl) (Lay.atR (i := 0) hcd rfl hw)) rfl rfl (kk_wd [1, 2, 3, 4, 5] (by kernel_rfl) ?_))
            obtain ⟨y51, zy51, h⟩ := bd h
            obtain ⟨iy51, hy51⟩ := geti_some zy51
            refine wd_ex (fun g => a34 = some ⟨g, 0, none⟩) (fun w hw => own_addrK 5 rfl hy51 hw) (fun g51 hg51 => ?_)
            subst hg51
            refine wd_take (i := 7) [1, 2, 3, 4, 5] rfl rfl rfl rfl rfl (by kernel_rfl) (by kernel_rfl) (fun _ _ _ _ h => h) (yh_idx Tb (k := x50.1.toNat) rfl rfl rfl iy51 (get_lt hy51) rfl rfl) ?_
            refine wd_take (i := 8) [1, 2, 3, 4, 5] rfl rfl rfl rfl rfl (by kernel_rfl) (by kernel_rfl) (fun _ _ _ _ h => h) (yh_loadO0 Tb 4 rfl rfl rfl rfl rfl hy51 rfl) ?_
            refine wd_all [9, 13] (by kernel_rfl) (by simp) (fun i hi => ?_)
            simp only [List.mem_cons, List.not_mem_nil, or_false] at hi
            rcases hi with rfl | rfl
            · refine ⟨_, rfl, rfl, ?_⟩
              obtain ⟨x53, hx53, h⟩ := bd h
              refine (ow_cN1 rfl hb134 rfl (fun w hw => c_spec_RunDo N _ _ _ _ hx53 w (Lay.at_ h_u1_steps hw) (rdo (A := strsL) 4 rfl hw)) rfl rfl (fun a53 c53 F53 => kk_wd [2, 3, 4, 5, 6] (by kernel_rfl) ?_))
              refine wd_take (i := 10) [2, 3, 4, 5, 6] rfl rfl rfl rfl rfl (by kernel_rfl) (by kernel_rfl) (fun _ _ _ _ h => h) (yh_move rfl rfl) ?_
              refine wd_take (i := 11) [2, 3, 4, 5, 6] rfl rfl rfl rfl rfl (by kernel_rfl) (by kernel_rfl) (fun _ _ _ _ h => h) (yh_extract rfl rfl rfl) ?_
              refine wd_take (i := 12) [2, 3, 4, 5, 6] rfl rfl rfl rfl rfl (by kernel_rfl) (by kernel_rfl) (fun _ _ _ _ h => h) (yh_extract rfl rfl rfl) ?_
              refine wd_one 13 rfl rfl (by kernel_rfl) (ow_allocA Tb rfl rfl rfl rfl (fun g10 => kk_wd [3, 4, 5, 6, 7] (by kernel_rfl) ?_))
              refine wd_one 14 rfl rfl (by kernel_rfl) (ow_storeA Tb (k := 0) rfl rfl rfl rfl rfl rfl rfl rfl rfl (kk_wd [3, 4, 5, 6, 7] (by kernel_rfl) ?_))
              refine wd_take (i := 15) [3, 4, 5, 6, 7] rfl rfl rfl rfl rfl (by kernel_rfl) (by kernel_rfl) (fun _ _ _ _ h => h) (yh_assign rfl rfl) ?_
              refine wd_done (by kernel_rfl) ?_
              refine ex_seq ?_
              refine cw_region ?_
              refine wl_u rfl (ow_y (yh_loadBA Tb (k := 0) rfl rfl rfl rfl rfl rfl) rfl rfl (kk_wl ?_))
              refine wl_u rfl (ow_storeA Tb (k := 5) rfl rfl rfl rfl rfl rfl rfl rfl rfl (kk_wl ?_))
              refine wl_nil ?_
              refine ex_block_normal ?_
              refine ex_seq ?_
              refine cw_region ?_
              refine wl_u rfl (ow_y (yh_move rfl rfl) rfl rfl (kk_wl ?_))
              refine wl_u rfl (ow_y (yh_arW rfl rfl rfl rfl) rfl rfl (kk_wl ?_))
              refine wl_u rfl (ow_y (yh_assign rfl rfl) rfl rfl (kk_wl ?_))
              refine wl_nil ?_
              exact ex_next [3, 4, 5, 0, 2] (hn10 (n10, x50.2, x53.1.state, x53.1.done, w64 (s8 + 1), a53, c53, F53) (Nat.lt_succ_self _) h) ⟨rfl, rfl, rfl, rfl, rfl, rfl, trivial⟩ (by kernel_rfl)
            · refine ⟨_, rfl, rfl, ?_⟩
              refine (ow_allocA Tb rfl rfl rfl rfl (fun g10 => kk_wd [2, 3, 4, 5, 6] (by kernel_rfl) ?_))
              obtain ⟨x53, hx53, h⟩ := bd h
              refine wd_one 9 rfl rfl (by kernel_rfl) (ow_cN1 rfl hb134 rfl (fun w hw => c_spec_RunDo N _ _ _ _ hx53 w (Lay.at_ h_u1_steps hw) (rdo (A := strsL) 5 rfl hw)) rfl rfl (fun a53 c53 F53 => kk_wd [3, 4, 5, 6, 7] (by kernel_rfl) ?_))
              refine wd_take (i := 10) [3, 4, 5, 6, 7] rfl rfl rfl rfl rfl (by kernel_rfl) (by kernel_rfl) (fun _ _ _ _ h => h) (yh_move rfl rfl) ?_
              refine wd_take (i := 11) [3, 4, 5, 6, 7] rfl rfl rfl rfl rfl (by kernel_rfl) (by kernel_rfl) (fun _ _ _ _ h => h) (yh_extract rfl rfl rfl) ?_
              refine wd_take (i := 12) [3, 4, 5, 6, 7] rfl rfl rfl rfl rfl (by kernel_rfl) (by kernel_rfl) (fun _ _ _ _ h => h) (yh_extract rfl rfl rfl) ?_
              refine wd_one 14 rfl rfl (by kernel_rfl) (ow_storeA Tb (k := 1) rfl rfl rfl rfl rfl rfl rfl rfl rfl (kk_wd [3, 4, 5, 6, 7] (by kernel_rfl) ?_))
              refine wd_take (i := 15) [3, 4, 5, 6, 7] rfl rfl rfl rfl rfl (by kernel_rfl) (by kernel_rfl) (fun _ _ _ _ h => h) (yh_assign rfl rfl) ?_
              refine wd_done (by kernel_rfl) ?_
              refine ex_seq ?_
              refine cw_region ?_
              refine wl_u rfl (ow_y (yh_loadBA Tb (k := 0) rfl rfl rfl rfl rfl rfl) rfl rfl (kk_wl ?_))
              refine wl_u rfl (ow_storeA Tb (k := 5) rfl rfl rfl rfl rfl rfl rfl rfl rfl (kk_wl ?_))
              refine wl_nil ?_
              refine ex_block_normal ?_
              refine ex_seq ?_
              refine cw_region ?_
              refine wl_u rfl (ow_y (yh_move rfl rfl) rfl rfl (kk_wl ?_))
              refine wl_u rfl (ow_y (yh_arW rfl rfl rfl rfl) rfl rfl (kk_wl ?_))
              refine wl_u rfl (ow_y (yh_assign rfl rfl) rfl rfl (kk_wl ?_))
              refine wl_nil ?_
              exact ex_next [3, 4, 5, 0, 2] (hn10 (n10, x50.2, x53.1.state, x53.1.done, w64 (s8 + 1), a53, c53, F53) (Nat.lt_succ_self _) h) ⟨rfl, rfl, rfl, rfl, rfl, rfl, trivial⟩ (by kernel_rfl)
          · refine ⟨_, rfl, rfl, ?_⟩
            refine (ow_allocA Tb rfl rfl rfl rfl (fun g10 => kk_wd [2, 3, 4, 5, 6] (by kernel_rfl) ?_))
            obtain ⟨x50, hx50, h⟩ := bd h
            refine wd_one 6 rfl rfl (by kernel_rfl) (ow_cM0 1 rfl hb107 rfl rfl (fun w hw => c_spec_l6Rd_pick N _ _ _ _ hx50 w (hw.at (i := 1) rfl) (Lay.atR (i := 1) hcd rfl hw)) rfl rfl (kk_wd [2, 3, 4, 5, 6] (by kernel_rfl) ?_))
            obtain ⟨y51, zy51, h⟩ := bd h
            obtain ⟨iy51, hy51⟩ := geti_some zy51
            refine wd_ex (fun g => a34 = some ⟨g, 0, none⟩) (fun w hw => own_addrK 6 rfl hy51 hw) (fun g51 hg51 => ?_)
            subst hg51
            refine wd_take (i := 7) [2, 3, 4, 5, 6] rfl rfl rfl rfl rfl (by kernel_rfl) (by kernel_rfl) (fun _ _ _ _ h => h) (yh_idx Tb (k := x50.1.toNat) rfl rfl rfl iy51 (get_lt hy51) rfl rfl) ?_
            refine wd_take (i := 8) [2, 3, 4, 5, 6] rfl rfl rfl rfl rfl (by kernel_rfl) (by kernel_rfl) (fun _ _ _ _ h => h) (yh_loadO0 Tb 4 rfl rfl rfl rfl rfl hy51 rfl) ?_
            obtain ⟨x53, hx53, h⟩ := bd h
            refine wd_one 9 rfl rfl (by kernel_rfl) (ow_cN1 rfl hb134 rfl (fun w hw => c_spec_RunDo N _ _ _ _ hx53 w (Lay.at_ h_u1_steps hw) (rdo (A := strsL) 5 rfl hw)) rfl rfl (fun a53 c53 F53 => kk_wd [3, 4, 5, 6, 7] (by kernel_rfl) ?_))
            refine wd_take (i := 10) [3, 4, 5, 6, 7] rfl rfl rfl rfl rfl (by kernel_rfl) (by kernel_rfl) (fun _ _ _ _ h => h) (yh_move rfl rfl) ?_
            refine wd_take (i := 11) [3, 4, 5, 6, 7] rfl rfl rfl rfl rfl (by kernel_rfl) (by kernel_rfl) (fun _ _ _ _ h => h) (yh_extract rfl rfl rfl) ?_
            refine wd_take (i := 12) [3, 4, 5, 6, 7] rfl rfl rfl rfl rfl (by kernel_rfl) (by kernel_rfl) (fun _ _ _ _ h => h) (yh_extract rfl rfl rfl) ?_
            refine wd_one 14 rfl rfl (by kernel_rfl) (ow_storeA Tb (k := 2) rfl rfl rfl rfl rfl rfl rfl rfl rfl (kk_wd [3, 4, 5, 6, 7] (by kernel_rfl) ?_))
            refine wd_take (i := 15) [3, 4, 5, 6, 7] rfl rfl rfl rfl rfl (by kernel_rfl) (by kernel_rfl) (fun _ _ _ _ h => h) (yh_assign rfl rfl) ?_
            refine wd_done (by kernel_rfl) ?_
            refine ex_seq ?_
            refine cw_region ?_
            refine wl_u rfl (ow_y (yh_loadBA Tb (k := 0) rfl rfl rfl rfl rfl rfl) rfl rfl (kk_wl ?_))
            refine wl_u rfl (ow_storeA Tb (k := 5) rfl rfl rfl rfl rfl rfl rfl rfl rfl (kk_wl ?_))
            refine wl_nil ?_
            refine ex_block_normal ?_
            refine ex_seq ?_
            refine cw_region ?_
            refine wl_u rfl (ow_y (yh_move rfl rfl) rfl rfl (kk_wl ?_))
            refine wl_u rfl (ow_y (yh_arW rfl rfl rfl rfl) rfl rfl (kk_wl ?_))
            refine wl_u rfl (ow_y (yh_assign rfl rfl) rfl rfl (kk_wl ?_))
            refine wl_nil ?_
            exact ex_next [3, 4, 5, 0, 2] (hn10 (n10, x50.2, x53.1.state, x53.1.done, w64 (s8 + 1), a53, c53, F53) (Nat.lt_succ_self _) h) ⟨rfl, rfl, rfl, rfl, rfl, rfl, trivial⟩ (by kernel_rfl)
        · skip
          replace h := bf c3 h
          refine cw_skip ?_
          refine ex_block_normal ?_
          refine ex_seq ?_
          refine cw_region ?_
          refine wl_u rfl (ow_y (yh_move rfl rfl) rfl rfl (kk_wl ?_))
          refine wl_u rfl (ow_y (yh_arW rfl rfl rfl rfl) rfl rfl (kk_wl ?_))
          refine wl_u rfl (ow_y (yh_assign rfl rfl) rfl rfl (kk_wl ?_))
          refine wl_nil ?_
          exact ex_next [0, 1, 2, 3, 4] (hn10 (n10, s0_c_1, s5_c_0, s5_c_1, w64 (s8 + 1), as5_c_1, cs5_c_1, Fs5_c_1) (Nat.lt_succ_self _) h) ⟨rfl, rfl, rfl, rfl, rfl, rfl, trivial⟩ (by kernel_rfl)
      · skip
        have h := he115
        refine cw_region ?_
        refine wl_u rfl (ow_y (yh_move rfl rfl) rfl rfl (kk_wl ?_))
        refine wl_know (x34.length ≤ 9223372036854775807) (fun w hw => own_max 0 rfl hw) (fun mo36 => ?_)
        refine wl_u rfl (ow_y (yh_lenS Tb rfl rfl rfl rfl) rfl rfl (kk_wl ?_))
        refine wl_u rfl (ow_y (yh_cmpI rfl rfl rfl rfl) rfl rfl (kk_wl ?_))
        refine wl_u rfl (ow_y (yh_move rfl rfl) rfl rfl (kk_wl ?_))
        refine wl_s rfl rfl (fun c4 => ?_) (fun c4 => ?_)
        · skip
          replace h := bt c4 h
          have q2 := ltb_true.1 c4
          refine wl_g rfl rfl (ow_y (yh_field Tb rfl rfl rfl) rfl rfl (kk_wl ?_))
          refine wl_g rfl rfl (ow_y (yh_loadB Tb (k := 4) rfl rfl rfl rfl rfl) rfl rfl (kk_wl ?_))
          refine wl_g rfl rfl (ow_y (yh_cmpI rfl rfl rfl rfl) rfl rfl (kk_wl ?_))
          refine wl_u rfl (ow_y (yh_pickT rfl rfl rfl) rfl rfl (kk_wl ?_))
          refine wl_nil ?_
          obtain rfl := Option.some.inj h
          exact ex_next [1, 2, 3, 4, 5, 0] (hn115 () trivial) ⟨rfl, rfl, rfl, rfl, rfl, rfl, rfl, rfl, trivial⟩ (by kernel_rfl)
        · skip
          replace h := bf c4 h
          have q3 := ltb_false.1 c4
          refine wl_n rfl rfl rfl rfl ?_
          refine wl_n rfl rfl rfl rfl ?_
          refine wl_n rfl rfl rfl rfl ?_
          refine wl_u rfl (ow_y (yh_pickF rfl rfl rfl) rfl rfl (kk_wl ?_))
          refine wl_nil ?_
          obtain rfl := Option.some.inj h
          exact ex_next [1, 2, 3, 4, 5, 0] (hn115 () trivial) ⟨rfl, rfl, rfl, rfl, rfl, rfl, rfl, rfl, trivial⟩ (by kernel_rfl)
    · skip
      replace h := bf c2 h
      have q4 := ltb_false.1 c2
      refine cw_exit ?_
      refine ex_then_exit ?_
      refine ex_then_exit ?_
      obtain rfl := Option.some.inj h
      have h := go_brk hk10
      refine ex_block_exit ?_
      refine ex_seq ?_
      obtain ⟨j118, he118, hk118⟩ := bd h
      clear h
      refine cw_cut (σ := (Option Addr) × Nat × (List Nat)) (fun s => True) (fun s => [(0, .pointer (some ⟨u0, 0, none⟩)), (4, .pointer (some ⟨g4, 0, none⟩)), (5, .pointer (some ⟨g5, 0, none⟩))]) (fun s => [blkC u0 113 [.slice acd cd.length ccd, .int .i64 ((j118.1 : Nat) : Int)], blkC g4 28 [.int .i64 0, .slice none 0 0], blkC g5 28 [.int .i64 j118.2.1, .slice s.1 j118.2.2.length s.2.1], owC strsL s.2.2 [.slice s.1 j118.2.2.length s.2.1] j118.2.2]) (fun s hI => ?_) (fun KL hn118 => ?_)
      · skip
        obtain ⟨ak118_5_c_1, ck118_5_c_1, Fk118_5_c_1⟩ := s
        simp only at ⊢
        have h := hk118
        refine cw_seq ?_
        refine cw_seq ?_
        refine cw_region ?_
        refine wl_u rfl (ow_y (yh_move rfl rfl) rfl rfl (kk_wl ?_))
        obtain ⟨x70, hx70, h⟩ := bd h
        have mp70 := pick_lt hx70 (by decide)
        refine wl_u rfl (ow_cM0 0 rfl hb107 rfl rfl (fun w hw => c_spec_l6Rd_pick N _ _ _ _ hx70 w (hw.at (i := 0) rfl) (Lay.atR (i := 0) hcd rfl hw)) rfl rfl (kk_wl ?_))
        refine wl_nil ?_
        refine ex_seq ?_
        refine cw_block ?_
        refine cw_seq ?_
        refine cw_region ?_
        refine wl_u rfl (ow_y (yh_cmpI rfl rfl rfl rfl) rfl rfl (kk_wl ?_))
        refine wl_u rfl (ow_y (yh_assign rfl rfl) rfl rfl (kk_wl ?_))
        refine wl_nil ?_
        refine ex_seq ?_
        refine cw_split rfl (fun c5 => ?_) (fun c5 => ?_)
        · skip
          replace h := bt c5 h
          have q5 := eqb_true.1 c5
          refine cw_region ?_
          refine wl_u rfl (ow_y (yh_move rfl rfl) rfl rfl (kk_wl ?_))
          obtain ⟨x74, hx74, h⟩ := bd h
          have mp74 := pick_lt hx74 (by decide)
          refine wl_u rfl (ow_cM0 0 rfl hb107 rfl rfl (fun w hw => c_spec_l6Rd_pick N _ _ _ _ hx74 w (hw.at (i := 0) rfl) (Lay.atR (i := 0) hcd rfl hw)) rfl rfl (kk_wl ?_))
          refine wl_u rfl (ow_y (yh_arW rfl rfl rfl rfl) rfl rfl (kk_wl ?_))
          refine wl_u rfl (ow_y (yh_field Tb rfl rfl rfl) rfl rfl (kk_wl ?_))
          refine wl_u rfl (ow_store1 Tb (k := 2) rfl rfl rfl rfl rfl rfl rfl rfl rfl (kk_wl ?_))
          refine wl_nil ?_
          refine ex_block_normal ?_
          refine ex_seq ?_
          refine cw_seq ?_
          refine cw_region ?_
          refine wl_u rfl (ow_y (yh_loadBA Tb (k := 0) rfl rfl rfl rfl rfl rfl) rfl rfl (kk_wl ?_))
          refine wl_u rfl (ow_storeA Tb (k := 2) rfl rfl rfl rfl rfl rfl rfl rfl rfl (kk_wl ?_))
          refine wl_nil ?_
          refine ex_seq ?_
          refine cw_ret ?_
          obtain rfl := Option.some.inj h
          exact ex_r1 Tb rfl (.cellA 0 rfl rfl rfl rfl rfl) (fun wq hq => ⟨_, rfl, hq.ext, ⟨ak118_5_c_1, ck118_5_c_1, Fk118_5_c_1, rfl, NewM.sel [3, 2] hq rfl⟩⟩)
        · skip
          replace h := bf c5 h
          have q6 := eqb_false.1 c5
          refine cw_seq ?_
          refine cw_region ?_
          refine wl_u rfl (ow_y (yh_cmpI rfl rfl rfl rfl) rfl rfl (kk_wl ?_))
          refine wl_u rfl (ow_y (yh_assign rfl rfl) rfl rfl (kk_wl ?_))
          refine wl_nil ?_
          refine ex_seq ?_
          refine cw_split rfl (fun c6 => ?_) (fun c6 => ?_)
          · skip
            replace h := bt c6 h
            have q7 := eqb_true.1 c6
            refine cw_region ?_
            refine wl_u rfl (ow_y (yh_field Tb rfl rfl rfl) rfl rfl (kk_wl ?_))
            refine wl_u rfl (ow_y (yh_loadB Tb (k := 2) rfl rfl rfl rfl rfl) rfl rfl (kk_wl ?_))
            refine wl_u rfl (ow_lit1 Tb rfl rfl rfl rfl rfl rfl rfl rfl rfl rfl (fun g81 => kk_chg (c' := owC strsL [g81] [.slice (some ⟨g81, 0, none⟩) 1 1] ([(⟨#[97]⟩ : Str)] : List Str)) 0 rfl (fun w hA => own_strsL ([(⟨#[97]⟩ : Str)] : List Str) hA rfl (by simp [maxLen])) rfl (kk_wl ?_)))
            obtain ⟨hll82, h⟩ := bd_appd h
            refine wl_u rfl (ow_appP Tb (i := 4) rfl rfl rfl rfl rfl (fun w hw => rdo (A := strsL) 0 rfl hw) rfl rfl rfl rfl hll82 (by decide) rfl rfl (fun a82 c82 F82 => kk_wl ?_))
            refine wl_u rfl (ow_y (yh_field Tb rfl rfl rfl) rfl rfl (kk_wl ?_))
            refine wl_u rfl (ow_store1 Tb (k := 4) rfl rfl rfl rfl rfl rfl rfl rfl rfl (kk_wl ?_))
            refine wl_nil ?_
            refine ex_block_normal ?_
            refine ex_seq ?_
            refine cw_seq ?_
            refine cw_region ?_
            refine wl_u rfl (ow_y (yh_loadBA Tb (k := 0) rfl rfl rfl rfl rfl rfl) rfl rfl (kk_wl ?_))
            refine wl_u rfl (ow_storeA Tb (k := 4) rfl rfl rfl rfl rfl rfl rfl rfl rfl (kk_wl ?_))
            refine wl_nil ?_
            refine ex_seq ?_
            refine cw_ret ?_
            obtain rfl := Option.some.inj h
            exact ex_r1 Tb rfl (.cellA 0 rfl rfl rfl rfl rfl) (fun wq hq => ⟨_, rfl, hq.ext, ⟨a82, c82, F82, rfl, NewM.sel [2, 4] hq rfl⟩⟩)
          · skip
            replace h := bf c6 h
            have q8 := eqb_false.1 c6
            refine cw_skip ?_
            refine ex_block_normal ?_
            refine ex_seq ?_
            refine cw_seq ?_
            refine cw_region ?_
            refine wl_u rfl (ow_y (yh_loadBA Tb (k := 2) rfl rfl rfl rfl rfl rfl) rfl rfl (kk_wl ?_))
            refine wl_u rfl (ow_storeA Tb (k := 1) rfl rfl rfl rfl rfl rfl rfl rfl rfl (kk_wl ?_))
            refine wl_nil ?_
            refine ex_seq ?_
            refine cw_ret ?_
            obtain rfl := Option.some.inj h
            exact ex_r1 Tb rfl (.cellA 0 rfl rfl rfl rfl rfl) (fun wq hq => ⟨_, rfl, hq.ext, ⟨ak118_5_c_1, ck118_5_c_1, Fk118_5_c_1, rfl, NewM.sel [3, 1] hq rfl⟩⟩)
      · skip
        have h := he118
        refine cw_seq ?_
        refine cw_region ?_
        refine wl_u rfl (ow_y (yh_field Tb rfl rfl rfl) rfl rfl (kk_wl ?_))
        refine wl_u rfl (ow_y (yh_loadB Tb (k := 3) rfl rfl rfl rfl rfl) rfl rfl (kk_wl ?_))
        refine wl_u rfl (ow_y (yh_cmpI rfl rfl rfl rfl) rfl rfl (kk_wl ?_))
        refine wl_u rfl (ow_y (yh_move rfl rfl) rfl rfl (kk_wl ?_))
        refine wl_s rfl rfl (fun c7 => ?_) (fun c7 => ?_)
        · skip
          replace h := bt c7 h
          have q9 := eqb_true.1 c7
          refine wl_g rfl rfl (ow_y (yh_move rfl rfl) rfl rfl (kk_wl ?_))
          obtain ⟨x62, hx62, h⟩ := bd h
          have mp62 := pick_lt hx62 (by decide)
          refine wl_g rfl rfl (ow_cM0 0 rfl hb107 rfl rfl (fun w hw => c_spec_l6Rd_pick N _ _ _ _ hx62 w (hw.at (i := 0) rfl) (Lay.atR (i := 0) hcd rfl hw)) rfl rfl (kk_wl ?_))
          refine wl_g rfl rfl (ow_y (yh_cmpI rfl rfl rfl rfl) rfl rfl (kk_wl ?_))
          refine wl_u rfl (ow_y (yh_pickT rfl rfl rfl) rfl rfl (kk_wl ?_))
          refine wl_nil ?_
          refine ex_seq ?_
          refine cw_split rfl (fun c8 => ?_) (fun c8 => ?_)
          · skip
            replace h := bt c8 h
            have q10 := eqb_true.1 c8
            refine cw_region ?_
            refine wl_u rfl (ow_y (yh_loadBA Tb (k := 1) rfl rfl rfl rfl rfl rfl) rfl rfl (kk_wl ?_))
            refine wl_u rfl (ow_y (yh_field Tb rfl rfl rfl) rfl rfl (kk_wl ?_))
            refine wl_u rfl (ow_y (yh_loadB Tb (k := 3) rfl rfl rfl rfl rfl) rfl rfl (kk_wl ?_))
            obtain ⟨x68, hx68, h⟩ := bd h
            refine wl_u rfl (ow_cN1 rfl hb65 rfl (fun w hw => c_spec_l3Back N _ _ _ hx68 w (Lay.at_ h_u1_steps hw) (rdo (A := strsL) 4 rfl hw)) rfl rfl (fun a68 c68 F68 => kk_wl ?_))
            refine wl_u rfl (ow_storeA Tb (k := 4) rfl rfl rfl rfl rfl rfl rfl rfl rfl (kk_wl ?_))
            refine wl_nil ?_
            obtain rfl := Option.some.inj h
            exact ex_next [2, 4, 0, 1] (hn118 (a68, c68, F68) trivial) ⟨rfl, rfl, rfl, trivial⟩ (by kernel_rfl)
          · skip
            replace h := bf c8 h
            have q11 := eqb_false.1 c8
            refine cw_skip ?_
            obtain rfl := Option.some.inj h
            exact ex_next [0, 2, 3, 4] (hn118 (as5_c_1, cs5_c_1, Fs5_c_1) trivial) ⟨rfl, rfl, rfl, trivial⟩ (by kernel_rfl)
        · skip
          replace h := bf c7 h
          have q12 := eqb_false.1 c7
          refine wl_n rfl rfl rfl rfl ?_
          refine wl_n rfl rfl rfl rfl ?_
          refine wl_n rfl rfl rfl rfl ?_
          refine wl_u rfl (ow_y (yh_pickF rfl rfl rfl) rfl rfl (kk_wl ?_))
          refine wl_nil ?_
          refine ex_seq ?_
          refine cw_false rfl ?_
          refine cw_skip ?_
          obtain rfl := Option.some.inj h
          exact ex_next [0, 2, 3, 4] (hn118 (as5_c_1, cs5_c_1, Fs5_c_1) trivial) ⟨rfl, rfl, rfl, trivial⟩ (by kernel_rfl)

def m_spec_l92Runs_L8 (N : Nat) (cd : List UInt8) (f : Flow) (j104 : Nat × Int) : Nat → Nat → (List Run) → Int → Option (Ex (Nat × List Run × Int) ((List Run) × Nat))
  | 0, _, _, _ => none
  | n + 1, s0_c_1, s5, s7 => (bif ltb s7 j104.2 then (m_spec_l91Run N cd s0_c_1 f).bind fun x25 => (m_spec_RunValid N f x25.1).bind fun x28 => (bif x28 then (appd s5 [x25.1]).bind fun l37 => m_spec_l92Runs_L8 N cd f j104 n x25.2 (s5 ++ [x25.1]) (w64 (s7 + 1))
 else (m_spec_l6Rd_pick N cd x25.2 10).bind fun x31 => (bif eqb x31.1 0 then (appd s5 [x25.1]).bind fun l37 => m_spec_l92Runs_L8 N cd f j104 n x31.2 (s5 ++ [x25.1]) (w64 (s7 + 1))
 else m_spec_l92Runs_L8 N cd f j104 n x31.2 s5 (w64 (s7 + 1))))
 else some (Ex.brk (s0_c_1, s5, s7)))

def m_spec_l92Runs (N : Nat) (cd : List UInt8) (p : Nat) (f : Flow) : Option ((List Run) × Nat) := (m_spec_l6Rd_pick N cd p 4).bind fun x11 => ((m_spec_l6Rd_pick N cd x11.2 24).bind fun x13 => (bif eqb x13.1 0 then (m_spec_l6Rd_pick N cd x13.2 2).bind fun x16 => some (x16.2, w64 (8 + x16.1))
 else some (x13.2, x11.1)) : Option (Nat × Int)).bind fun j104 => (m_spec_l92Runs_L8 N cd f j104 N j104.1 ([] : List Run) 0).bind fun e8 => e8.go (fun r => r) fun b8 => some (b8.2.1, b8.1)

set_option maxHeartbeats 4000000 in
theorem c_spec_l92Runs (N : Nat) (cd : List UInt8) (p : Nat) (f : Flow) (res : (List Run) × Nat) (h : m_spec_l92Runs N cd p f = some res) (w : World) {a_f_steps : Option Addr} {c_f_steps : Nat} {r ccd : Nat} {acd : Option Addr} (hr : (blkC r 113 [.slice acd cd.length ccd, .int .i64 ((p : Nat) : Int)]).A w) (hcd : bytesL.rd w [r] [.slice acd cd.length ccd] cd) (h_f_steps : stepsL.rd w [r] [.slice a_f_steps f.steps.length c_f_steps] f.steps) : Ret Try.prog 70 [.pointer (some ⟨r, 0, none⟩), .agg #[.int .i64 f.ver, .slice a_f_steps f.steps.length c_f_steps]] w [r] fun v w' => ∃ a1 c1 F1, v = .slice a1 res.1.length c1 ∧ NewM w w' [r] [owC runsL F1 [.slice a1 res.1.length c1] res.1, blkC r 113 [.slice acd cd.length ccd, .int .i64 ((res.2 : Nat) : Int)]] := by
  have mh_f_steps := rd_max h_f_steps
  have mhcd := rd_max hcd
  unfold m_spec_l92Runs at h
  refine ret_enter Try.func70 rfl Try.ntmps70 rfl (hp_one hr (by simp [blkC])) ?_
  refine cw_seq ?_
  refine cw_region ?_
  refine wl_u rfl (ow_boxA rfl rfl rfl rfl (fun g3 => kk_wl ?_))
  refine wl_u rfl (ow_y (yh_assign rfl rfl) rfl rfl (kk_wl ?_))
  refine wl_nil ?_
  refine ex_seq ?_
  refine cw_seq ?_
  refine cw_region ?_
  refine wl_u rfl (ow_lit0 Tb rfl rfl rfl rfl rfl rfl (fun g9 => kk_chg (c' := owC runsL [g9] [.slice (some ⟨g9, 0, none⟩) 0 0] ([] : List Run)) 0 rfl (fun w hA => own_runsL ([] : List Run) hA rfl (by simp [maxLen])) rfl (kk_wl ?_)))
  refine wl_u rfl (ow_y (yh_assign rfl rfl) rfl rfl (kk_wl ?_))
  refine wl_nil ?_
  refine ex_seq ?_
  refine cw_seq ?_
  refine cw_region ?_
  refine wl_u rfl (ow_y (yh_move rfl rfl) rfl rfl (kk_wl ?_))
  obtain ⟨x11, hx11, h⟩ := bd h
  have mp11 := pick_lt hx11 (by decide)
  refine wl_u rfl (ow_cM0 2 rfl hb107 rfl rfl (fun w hw => c_spec_l6Rd_pick N _ _ _ _ hx11 w (hw.at (i := 2) rfl) (Lay.atR (i := 2) hcd rfl hw)) rfl rfl (kk_wl ?_))
  refine wl_u rfl (ow_y (yh_assign rfl rfl) rfl rfl (kk_wl ?_))
  refine wl_nil ?_
  refine ex_seq ?_
  obtain ⟨j104, he104, hk104⟩ := bd h
  clear h
  refine cw_cut (σ := Unit) (fun s => True) (fun s => [(0, .pointer (some ⟨r, 0, none⟩)), (3, .pointer (some ⟨g3, 0, none⟩)), (5, .slice (some ⟨g9, 0, none⟩) 0 0), (6, .int .i64 j104.2)]) (fun s => [blkC r 113 [.slice acd cd.length ccd, .int .i64 ((j104.1 : Nat) : Int)], blkC g3 25 [.int .i64 f.ver, .slice a_f_steps f.steps.length c_f_steps], owC runsL [g9] [.slice (some ⟨g9, 0, none⟩) 0 0] ([] : List Run)]) (fun s hI => ?_) (fun KL hn104 => ?_)
  · skip
    have h := hk104
    refine cw_seq ?_
    refine cw_seq ?_
    refine cw_region ?_
    refine wl_u rfl (ow_y (yh_assign rfl rfl) rfl rfl (kk_wl ?_))
    refine wl_nil ?_
    refine ex_seq ?_
    refine cw_block ?_
    obtain ⟨e8, he8, hk8⟩ := bd h
    clear h
    refine cw_loopG (σ := Nat × Nat × (List Run) × Int × (Option Addr) × Nat × (List Nat)) (fun s => m_spec_l92Runs_L8 N cd f j104 s.1 s.2.1 s.2.2.1 s.2.2.2.1 = some e8) (fun s => [(0, .pointer (some ⟨r, 0, none⟩)), (3, .pointer (some ⟨g3, 0, none⟩)), (5, .slice s.2.2.2.2.1 s.2.2.1.length s.2.2.2.2.2.1), (6, .int .i64 j104.2), (7, .int .i64 s.2.2.2.1)]) (fun s => [blkC r 113 [.slice acd cd.length ccd, .int .i64 ((s.2.1 : Nat) : Int)], blkC g3 25 [.int .i64 f.ver, .slice a_f_steps f.steps.length c_f_steps], owC runsL s.2.2.2.2.2.2 [.slice s.2.2.2.2.1 s.2.2.1.length s.2.2.2.2.2.1] s.2.2.1]) (fun s => s.1) (N, j104.1, ([] : List Run), 0, (some ⟨g9, 0, none⟩), 0, [g9]) [0, 1, 2] he8 ⟨rfl, rfl, rfl, rfl, rfl, trivial⟩ rfl (fun KL s he8 hn8 => ?_)
    obtain ⟨n8, s0_c_1, s5, s7, as5, cs5, Fs5⟩ := s
    simp only at he8 hn8 ⊢
    rcases n8 with _ | n8
    · exact nosome he8
    have h := he8; rw [m_spec_l92Runs_L8] at h
    refine cw_seq ?_
    refine cw_seq ?_
    refine cw_region ?_
    refine wl_u rfl (ow_y (yh_move rfl rfl) rfl rfl (kk_wl ?_))
    refine wl_u rfl (ow_y (yh_move rfl rfl) rfl rfl (kk_wl ?_))
    refine wl_u rfl (ow_y (yh_cmpI rfl rfl rfl rfl) rfl rfl (kk_wl ?_))
    refine wl_nil ?_
    refine ex_seq ?_
    refine cw_split rfl (fun c1 => ?_) (fun c1 => ?_)
    · skip
      replace h := bt c1 h
      have q1 := ltb_true.1 c1
      refine cw_skip ?_
      refine ex_seq ?_
      refine cw_seq ?_
      refine cw_block ?_
      refine cw_seq ?_
      refine cw_region ?_
      refine wl_u rfl (ow_y (yh_move rfl rfl) rfl rfl (kk_wl ?_))
      refine wl_u rfl (ow_y (yh_loadBA Tb (k := 1) rfl rfl rfl rfl rfl rfl) rfl rfl (kk_wl ?_))
      obtain ⟨x25, hx25, h⟩ := bd h
      refine wl_u rfl (ow_cM1 0 rfl hb111 rfl rfl (fun w hw => c_spec_l91Run N _ _ _ _ hx25 w (hw.at (i := 0) rfl) (Lay.atR (i := 0) hcd rfl hw) (Lay.atR (i := 0) h_f_steps rfl hw)) rfl rfl (fun a25 c25 F25 => kk_wl ?_))
      refine wl_u rfl (ow_allocA Tb rfl rfl rfl rfl (fun g8 => kk_wl ?_))
      refine wl_u rfl (ow_storeA Tb (k := 0) rfl rfl rfl rfl rfl rfl rfl rfl rfl (kk_wl ?_))
      refine wl_nil ?_
      refine ex_seq ?_
      refine cw_seq ?_
      refine cw_region ?_
      refine wl_u rfl (ow_y (yh_loadBA Tb (k := 3) rfl rfl rfl rfl rfl rfl) rfl rfl (kk_wl ?_))
      refine wl_u rfl (ow_y (yh_loadBA Tb (k := 0) rfl rfl rfl rfl rfl rfl) rfl rfl (kk_wl ?_))
      obtain ⟨x28, hx28, h⟩ := bd h
      refine wl_u rfl (ow_cV rfl hb62 rfl (fun w hw => c_spec_RunValid N _ _ _ hx28 w (Lay.at_ h_f_steps hw) (rdo (A := strsL) 1 rfl hw)) rfl rfl (kk_wl ?_))
      refine wl_u rfl (ow_y (yh_move rfl rfl) rfl rfl (kk_wl ?_))
      refine wl_s rfl rfl (fun c2 => ?_) (fun c2 => ?_)
      · skip
        replace h := bt c2 h
        refine wl_n rfl rfl rfl rfl ?_
        refine wl_n rfl rfl rfl rfl ?_
        refine wl_n rfl rfl rfl rfl ?_
        refine wl_u rfl (ow_y (yh_pickT rfl rfl rfl) rfl rfl (kk_wl ?_))
        refine wl_nil ?_
        refine ex_seq ?_
        refine cw_true rfl ?_
        refine cw_region ?_
        refine wl_u rfl (ow_y (yh_move rfl rfl) rfl rfl (kk_wl ?_))
        refine wl_u rfl (ow_y (yh_loadBA Tb (k := 0) rfl rfl rfl rfl rfl rfl) rfl rfl (kk_wl ?_))
        refine wl_u rfl (ow_litA Tb rfl rfl rfl rfl rfl rfl (by decide) rfl rfl (fun g36 => kk_wl ?_))
        obtain ⟨hll37, h⟩ := bd_appd h
        refine wl_u rfl (ow_chg (c' := owC runL F25 [.int .i64 x25.1.state, .slice a25 x25.1.done.length c25] x25.1) 2 rfl (fun w hA => runL_mk x25.1 hA) rfl (ow_appE Tb (i := 5) (j := 0) (k := 1) rfl rfl rfl rfl rfl rfl rfl rfl rfl rfl rfl (app1 hll37) (by decide) rfl rfl (fun a37 c37 F37 => kk_wl ?_)))
        refine wl_u rfl (ow_y (yh_assign rfl rfl) rfl rfl (kk_wl ?_))
        refine wl_nil ?_
        refine ex_block_normal ?_
        refine ex_seq ?_
        refine cw_region ?_
        refine wl_u rfl (ow_y (yh_move rfl rfl) rfl rfl (kk_wl ?_))
        refine wl_u rfl (ow_y (yh_arW rfl rfl rfl rfl) rfl rfl (kk_wl ?_))
        refine wl_u rfl (ow_y (yh_assign rfl rfl) rfl rfl (kk_wl ?_))
        refine wl_nil ?_
        exact ex_next [3, 4, 0] (hn8 (n8, x25.2, (s5 ++ [x25.1]), w64 (s7 + 1), a37, c37, F37) (Nat.lt_succ_self _) h) ⟨rfl, rfl, rfl, rfl, rfl, trivial⟩ (by kernel_rfl)
      · skip
        replace h := bf c2 h
        refine wl_g rfl rfl (ow_y (yh_move rfl rfl) rfl rfl (kk_wl ?_))
        obtain ⟨x31, hx31, h⟩ := bd h
        have mp31 := pick_lt hx31 (by decide)
        refine wl_g rfl rfl (ow_cM0 2 rfl hb107 rfl rfl (fun w hw => c_spec_l6Rd_pick N _ _ _ _ hx31 w (hw.at (i := 2) rfl) (Lay.atR (i := 2) hcd rfl hw)) rfl rfl (kk_wl ?_))
        refine wl_g rfl rfl (ow_y (yh_cmpI rfl rfl rfl rfl) rfl rfl (kk_wl ?_))
        refine wl_u rfl (ow_y (yh_pickF rfl rfl rfl) rfl rfl (kk_wl ?_))
        refine wl_nil ?_
        refine ex_seq ?_
        refine cw_split rfl (fun c3 => ?_) (fun c3 => ?_)
        · skip
          replace h := bt c3 h
          have q2 := eqb_true.1 c3
          refine cw_region ?_
          refine wl_u rfl (ow_y (yh_move rfl rfl) rfl rfl (kk_wl ?_))
          refine wl_u rfl (ow_y (yh_loadBA Tb (k := 1) rfl rfl rfl rfl rfl rfl) rfl rfl (kk_wl ?_))
          refine wl_u rfl (ow_litA Tb rfl rfl rfl rfl rfl rfl (by decide) rfl rfl (fun g36 => kk_wl ?_))
          obtain ⟨hll37, h⟩ := bd_appd h
          refine wl_u rfl (ow_chg (c' := owC runL F25 [.int .i64 x25.1.state, .slice a25 x25.1.done.length c25] x25.1) 3 rfl (fun w hA => runL_mk x25.1 hA) rfl (ow_appE Tb (i := 5) (j := 0) (k := 1) rfl rfl rfl rfl rfl rfl rfl rfl rfl rfl rfl (app1 hll37) (by decide) rfl rfl (fun a37 c37 F37 => kk_wl ?_)))
          refine wl_u rfl (ow_y (yh_assign rfl rfl) rfl rfl (kk_wl ?_))
          refine wl_nil ?_
          refine ex_block_normal ?_
          refine ex_seq ?_
          refine cw_region ?_
          refine wl_u rfl (ow_y (yh_move rfl rfl) rfl rfl (kk_wl ?_))
          refine wl_u rfl (ow_y (yh_arW rfl rfl rfl rfl) rfl rfl (kk_wl ?_))
          refine wl_u rfl (ow_y (yh_assign rfl rfl) rfl rfl (kk_wl ?_))
          refine wl_nil ?_
          exact ex_next [2, 4, 0] (hn8 (n8, x31.2, (s5 ++ [x25.1]), w64 (s7 + 1), a37, c37, F37) (Nat.lt_succ_self _) h) ⟨rfl, rfl, rfl, rfl, rfl, trivial⟩ (by kernel_rfl)
        · skip
          replace h := bf c3 h
          have q3 := eqb_false.1 c3
          refine cw_skip ?_
          refine ex_block_normal ?_
          refine ex_seq ?_
          refine cw_region ?_
          refine wl_u rfl (ow_y (yh_move rfl rfl) rfl rfl (kk_wl ?_))
          refine wl_u rfl (ow_y (yh_arW rfl rfl rfl rfl) rfl rfl (kk_wl ?_))
          refine wl_u rfl (ow_y (yh_assign rfl rfl) rfl rfl (kk_wl ?_))
          refine wl_nil ?_
          exact ex_next [0, 3, 4] (hn8 (n8, x31.2, s5, w64 (s7 + 1), as5, cs5, Fs5) (Nat.lt_succ_self _) h) ⟨rfl, rfl, rfl, rfl, rfl, trivial⟩ (by kernel_rfl)
    · skip
      replace h := bf c1 h
      have q4 := ltb_false.1 c1
      refine cw_exit ?_
      refine ex_then_exit ?_
      refine ex_then_exit ?_
      obtain rfl := Option.some.inj h
      have h := go_brk hk8
      refine ex_block_exit ?_
      refine ex_seq ?_
      refine cw_seq ?_
      refine cw_region ?_
      refine wl_u rfl (ow_y (yh_move rfl rfl) rfl rfl (kk_wl ?_))
      refine wl_u rfl (ow_y (yh_assign rfl rfl) rfl rfl (kk_wl ?_))
      refine wl_nil ?_
      refine ex_seq ?_
      refine cw_ret ?_
      obtain rfl := Option.some.inj h
      exact ex_r1 Tb rfl (.tmp rfl) (fun wq hq => ⟨_, rfl, hq.ext, ⟨as5, cs5, Fs5, rfl, NewM.sel [2, 0] hq rfl⟩⟩)
  · skip
    have h := he104
    refine cw_seq ?_
    refine cw_region ?_
    refine wl_u rfl (ow_y (yh_move rfl rfl) rfl rfl (kk_wl ?_))
    obtain ⟨x13, hx13, h⟩ := bd h
    have mp13 := pick_lt hx13 (by decide)
    refine wl_u rfl (ow_cM0 0 rfl hb107 rfl rfl (fun w hw => c_spec_l6Rd_pick N _ _ _ _ hx13 w (hw.at (i := 0) rfl) (Lay.atR (i := 0) hcd rfl hw)) rfl rfl (kk_wl ?_))
    refine wl_u rfl (ow_y (yh_cmpI rfl rfl rfl rfl) rfl rfl (kk_wl ?_))
    refine wl_nil ?_
    refine ex_seq ?_
    refine cw_split rfl (fun c4 => ?_) (fun c4 => ?_)
    · skip
      replace h := bt c4 h
      have q5 := eqb_true.1 c4
      refine cw_region ?_
      refine wl_u rfl (ow_y (yh_move rfl rfl) rfl rfl (kk_wl ?_))
      obtain ⟨x16, hx16, h⟩ := bd h
      have mp16 := pick_lt hx16 (by decide)
      refine wl_u rfl (ow_cM0 0 rfl hb107 rfl rfl (fun w hw => c_spec_l6Rd_pick N _ _ _ _ hx16 w (hw.at (i := 0) rfl) (Lay.atR (i := 0) hcd rfl hw)) rfl rfl (kk_wl ?_))
      refine wl_u rfl (ow_y (yh_arW rfl rfl rfl rfl) rfl rfl (kk_wl ?_))
      refine wl_u rfl (ow_y (yh_assign rfl rfl) rfl rfl (kk_wl ?_))
      refine wl_nil ?_
      obtain rfl := Option.some.inj h
      exact ex_next [0, 2, 1] (hn104 () trivial) ⟨rfl, rfl, rfl, rfl, trivial⟩ (by kernel_rfl)
    · skip
      replace h := bf c4 h
      have q6 := eqb_false.1 c4
      refine cw_skip ?_
      obtain rfl := Option.some.inj h
      exact ex_next [0, 2, 1] (hn104 () trivial) ⟨rfl, rfl, rfl, rfl, trivial⟩ (by kernel_rfl)

def m_spec_l2Step (N : Nat) (s_ : Step) : Option (Step) := (appd ([] : List Str) s_.after).bind fun l6 => some (Step.mk s_.name (([] : List Str) ++ s_.after) s_.undo)

set_option maxHeartbeats 4000000 in
theorem c_spec_l2Step (N : Nat) (s_ : Step) (res : Step) (h : m_spec_l2Step N s_ = some res) (w : World) {a_s__after : Option Addr} {c_s__after : Nat} (h_s__after : strsL.rd w [] [.slice a_s__after s_.after.length c_s__after] s_.after) : Ret Try.prog 128 [.agg #[.string s_.name, .slice a_s__after s_.after.length c_s__after, .bool s_.undo]] w [] fun v w' => ∃ a1 c1 F1, v = .agg #[.string res.name, .slice a1 res.after.length c1, .bool res.undo] ∧ NewC w w' [owC strsL F1 [.slice a1 res.after.length c1] res.after] := by
  have mh_s__after := rd_max h_s__after
  unfold m_spec_l2Step at h
  refine ret_enter Try.func128 rfl Try.ntmps128 rfl (Hp.refl w _) ?_
  refine cw_seq ?_
  refine cw_region ?_
  refine wl_u rfl (ow_boxA rfl rfl rfl rfl (fun g1 => kk_wl ?_))
  refine wl_u rfl (ow_allocA Tb rfl rfl rfl rfl (fun g2 => kk_wl ?_))
  refine wl_nil ?_
  refine ex_seq ?_
  refine cw_seq ?_
  refine cw_region ?_
  refine wl_u rfl (ow_lit0 Tb rfl rfl rfl rfl rfl rfl (fun g3 => kk_chg (c' := owC strsL [g3] [.slice (some ⟨g3, 0, none⟩) 0 0] ([] : List Str)) 0 rfl (fun w hA => own_strsL ([] : List Str) hA rfl (by simp [maxLen])) rfl (kk_wl ?_)))
  refine wl_u rfl (ow_y (yh_field Tb rfl rfl rfl) rfl rfl (kk_wl ?_))
  refine wl_u rfl (ow_y (yh_loadB Tb (k := 2) rfl rfl rfl rfl rfl) rfl rfl (kk_wl ?_))
  obtain ⟨hll6, h⟩ := bd_appd h
  refine wl_u rfl (ow_appP Tb (i := 0) rfl rfl rfl rfl rfl (fun w hw => Lay.at_ h_s__after hw) rfl rfl rfl rfl hll6 (by decide) rfl rfl (fun a6 c6 F6 => kk_wl ?_))
  refine wl_u rfl (ow_y (yh_field Tb rfl rfl rfl) rfl rfl (kk_wl ?_))
  refine wl_u rfl (ow_store1 Tb (k := 2) rfl rfl rfl rfl rfl rfl rfl rfl rfl (kk_wl ?_))
  refine wl_nil ?_
  refine ex_seq ?_
  refine cw_seq ?_
  refine cw_region ?_
  refine wl_u rfl (ow_y (yh_loadBA Tb (k := 0) rfl rfl rfl rfl rfl rfl) rfl rfl (kk_wl ?_))
  refine wl_u rfl (ow_storeA Tb (k := 2) rfl rfl rfl rfl rfl rfl rfl rfl rfl (kk_wl ?_))
  refine wl_nil ?_
  refine ex_seq ?_
  refine cw_ret ?_
  obtain rfl := Option.some.inj h
  exact ex_r1 Tb rfl (.cellA 0 rfl rfl rfl rfl rfl) (fun wq hq => ⟨_, rfl, hq.ext, ⟨a6, c6, F6, rfl, NewC.sel [2] hq rfl⟩⟩)

def m_spec_l2Copy_L6 (N : Nat) (f : Flow) : Nat → (List Step) → Nat → Option (Ex (List Step × Nat) (Flow))
  | 0, _, _ => none
  | n + 1, s3_c_1, s4 => (bif ltb ((s4 : Nat) : Int) ((f.steps.length : Nat) : Int) then (f.steps[s4]?).bind fun y21 => (m_spec_l2Step N y21).bind fun x23 => (appd s3_c_1 [x23]).bind fun l25 => m_spec_l2Copy_L6 N f n (s3_c_1 ++ [x23]) (s4 + 1)
 else some (Ex.brk (s3_c_1, s4)))

def m_spec_l2Copy (N : Nat) (f : Flow) : Option (Flow) := (m_spec_l2Copy_L6 N f N ([] : List Step) 0).bind fun e6 => e6.go (fun r => r) fun b6 => some (Flow.mk f.ver b6.1)

set_option maxHeartbeats 4000000 in
theorem c_spec_l2Copy (N : Nat) (f : Flow) (res : Flow) (h : m_spec_l2Copy N f = some res) (w : World) {a_f_steps : Option Addr} {c_f_steps : Nat} (h_f_steps : stepsL.rd w [] [.slice a_f_steps f.steps.length c_f_steps] f.steps) : Ret Try.prog 108 [.agg #[.int .i64 f.ver, .slice a_f_steps f.steps.length c_f_steps]] w [] fun v w' => ∃ a1 c1 F1, v = .agg #[.int .i64 res.ver, .slice a1 res.steps.length c1] ∧ NewC w w' [owC stepsL F1 [.slice a1 res.steps.length c1] res.steps] := by
  have mh_f_steps := rd_max h_f_steps
  unfold m_spec_l2Copy at h
  refine ret_enter Try.func108 rfl Try.ntmps108 rfl (Hp.refl w _) ?_
  refine cw_seq ?_
  refine cw_region ?_
  refine wl_u rfl (ow_boxA rfl rfl rfl rfl (fun g1 => kk_wl ?_))
  refine wl_u rfl (ow_allocA Tb rfl rfl rfl rfl (fun g2 => kk_wl ?_))
  refine wl_nil ?_
  refine ex_seq ?_
  refine cw_seq ?_
  refine cw_region ?_
  refine wl_u rfl (ow_y (yh_field Tb rfl rfl rfl) rfl rfl (kk_wl ?_))
  refine wl_u rfl (ow_y (yh_loadB Tb (k := 1) rfl rfl rfl rfl rfl) rfl rfl (kk_wl ?_))
  refine wl_u rfl (ow_lit0 Tb rfl rfl rfl rfl rfl rfl (fun g7 => kk_chg (c' := owC stepsL [g7] [.slice (some ⟨g7, 0, none⟩) 0 0] ([] : List Step)) 0 rfl (fun w hA => own_stepsL ([] : List Step) hA rfl (by simp [maxLen])) rfl (kk_wl ?_)))
  refine wl_u rfl (ow_y (yh_buildA rfl rfl (by kernel_rfl)) rfl rfl (kk_wl ?_))
  refine wl_u rfl (ow_allocA Tb rfl rfl rfl rfl (fun g3 => kk_wl ?_))
  refine wl_u rfl (ow_storeA Tb (k := 0) rfl rfl rfl rfl rfl rfl rfl rfl rfl (kk_wl ?_))
  refine wl_nil ?_
  refine ex_seq ?_
  refine cw_seq ?_
  refine cw_seq ?_
  refine cw_region ?_
  refine wl_u rfl (ow_y (yh_assign rfl rfl) rfl rfl (kk_wl ?_))
  refine wl_nil ?_
  refine ex_seq ?_
  refine cw_block ?_
  obtain ⟨e6, he6, hk6⟩ := bd h
  clear h
  refine cw_loopG (σ := Nat × (List Step) × Nat × (Option Addr) × Nat × (List Nat)) (fun s => m_spec_l2Copy_L6 N f s.1 s.2.1 s.2.2.1 = some e6) (fun s => [(1, .pointer (some ⟨g1, 0, none⟩)), (2, .pointer (some ⟨g2, 0, none⟩)), (3, .pointer (some ⟨g3, 0, none⟩)), (4, .int .i64 ((s.2.2.1 : Nat) : Int))]) (fun s => [blkC g1 25 [.int .i64 f.ver, .slice a_f_steps f.steps.length c_f_steps], blkC g2 25 [.int .i64 0, .slice none 0 0], blkC g3 25 [.int .i64 f.ver, .slice s.2.2.2.1 s.2.1.length s.2.2.2.2.1], owC stepsL s.2.2.2.2.2 [.slice s.2.2.2.1 s.2.1.length s.2.2.2.2.1] s.2.1]) (fun s => s.1) (N, ([] : List Step), 0, (some ⟨g7, 0, none⟩), 0, [g7]) [3, 2, 0, 1] he6 ⟨rfl, rfl, rfl, rfl, trivial⟩ rfl (fun KL s he6 hn6 => ?_)
  obtain ⟨n6, s3_c_1, s4, as3_c_1, cs3_c_1, Fs3_c_1⟩ := s
  simp only at he6 hn6 ⊢
  rcases n6 with _ | n6
  · exact nosome he6
  have h := he6; rw [m_spec_l2Copy_L6] at h
  refine cw_seq ?_
  refine cw_seq ?_
  refine cw_region ?_
  refine wl_u rfl (ow_y (yh_move rfl rfl) rfl rfl (kk_wl ?_))
  refine wl_u rfl (ow_y (yh_field Tb rfl rfl rfl) rfl rfl (kk_wl ?_))
  refine wl_u rfl (ow_y (yh_loadB Tb (k := 0) rfl rfl rfl rfl rfl) rfl rfl (kk_wl ?_))
  refine wl_u rfl (ow_y (yh_lenS Tb rfl rfl rfl rfl) rfl rfl (kk_wl ?_))
  refine wl_u rfl (ow_y (yh_cmpI rfl rfl rfl rfl) rfl rfl (kk_wl ?_))
  refine wl_nil ?_
  refine ex_seq ?_
  refine cw_split rfl (fun c1 => ?_) (fun c1 => ?_)
  · skip
    replace h := bt c1 h
    have q1 := ltb_true.1 c1
    refine cw_skip ?_
    refine ex_seq ?_
    refine cw_seq ?_
    refine cw_block ?_
    refine cw_dr [0, 1, 2, 3, 4, 5, 6] [9, 10, 11] [blkC g1 25 [.int .i64 f.ver, .slice a_f_steps f.steps.length c_f_steps], blkC g2 25 [.int .i64 0, .slice none 0 0], blkC g3 25 [.int .i64 f.ver, .slice as3_c_1 s3_c_1.length cs3_c_1], owC stepsL Fs3_c_1 [.slice as3_c_1 s3_c_1.length cs3_c_1] s3_c_1] (by kernel_rfl) ?_
    refine wd_take (i := 0) [0, 1, 2, 3] rfl rfl rfl rfl rfl (by kernel_rfl) (by kernel_rfl) (fun _ _ _ _ h => h) (yh_field Tb rfl rfl rfl) ?_
    refine wd_take (i := 1) [0, 1, 2, 3] rfl rfl rfl rfl rfl (by kernel_rfl) (by kernel_rfl) (fun _ _ _ _ h => h) (yh_loadB Tb (k := 2) rfl rfl rfl rfl rfl) ?_
    refine wd_take (i := 2) [0, 1, 2, 3] rfl rfl rfl rfl rfl (by kernel_rfl) (by kernel_rfl) (fun _ _ _ _ h => h) (yh_field Tb rfl rfl rfl) ?_
    refine wd_take (i := 3) [0, 1, 2, 3] rfl rfl rfl rfl rfl (by kernel_rfl) (by kernel_rfl) (fun _ _ _ _ h => h) (yh_loadB Tb (k := 0) rfl rfl rfl rfl rfl) ?_
    refine wd_take (i := 4) [0, 1, 2, 3] rfl rfl rfl rfl rfl (by kernel_rfl) (by kernel_rfl) (fun _ _ _ _ h => h) (yh_move rfl rfl) ?_
    obtain ⟨y21, hy21, h⟩ := bd h
    obtain ⟨b21, o21, ha21⟩ := sl_addr h_f_steps hy21
    subst ha21
    obtain ⟨a21, e21, hc21, hf21⟩ := get_step h_f_steps hy21
    have mx21 := rd_max hf21
    refine wd_take (i := 5) [0, 1, 2, 3] rfl rfl rfl rfl rfl (by kernel_rfl) (by kernel_rfl) (fun _ _ _ _ h => h) (yh_idx Tb (k := s4) rfl rfl rfl rfl (get_lt hy21) rfl rfl) ?_
    refine wd_take (i := 6) [0, 1, 2, 3] rfl rfl rfl rfl rfl (by kernel_rfl) (by kernel_rfl) (fun _ _ _ _ h => h) (yh_loadAN Tb rfl rfl rfl rfl hc21 rfl) ?_
    obtain ⟨x23, hx23, h⟩ := bd h
    refine wd_one 7 rfl rfl (by kernel_rfl) (ow_cN1 rfl hb128 rfl (fun w hw => c_spec_l2Step N _ _ hx23 w (Lay.at_ hf21 hw)) rfl rfl (fun a23 c23 F23 => kk_wd [1, 2, 3, 4] (by kernel_rfl) ?_))
    refine wd_one 8 rfl rfl (by kernel_rfl) (ow_litA Tb rfl rfl rfl rfl rfl rfl (by decide) rfl rfl (fun g24 => kk_wd [2, 3, 4, 5] (by kernel_rfl) ?_))
    obtain ⟨hll25, h⟩ := bd_appd h
    refine wd_one 9 rfl rfl (by kernel_rfl) (ow_chg (c' := owC stepL F23 [.string x23.name, .slice a23 x23.after.length c23, .bool x23.undo] x23) 1 rfl (fun w hA => stepL_mk x23 hA) rfl (ow_appE Tb (i := 5) (j := 0) (k := 1) rfl rfl rfl rfl rfl rfl rfl rfl rfl rfl rfl (app1 hll25) (by decide) rfl rfl (fun a25 c25 F25 => kk_wdT rfl ?_)))
    refine wd_one 10 rfl rfl (by kernel_rfl) (ow_y (yh_field Tb rfl rfl rfl) rfl rfl (kk_wdT rfl ?_))
    refine wd_one 11 rfl rfl (by kernel_rfl) (ow_store1 Tb (k := 4) rfl rfl rfl rfl rfl rfl rfl rfl rfl (kk_wdT rfl ?_))
    refine wd_done (by kernel_rfl) ?_
    refine ex_block_normal ?_
    refine ex_seq ?_
    refine cw_region ?_
    refine wl_u rfl (ow_y (yh_move rfl rfl) rfl rfl (kk_wl ?_))
    refine wl_u rfl (ow_y (yh_arI rfl rfl rfl rfl (by omega)) rfl rfl (kk_wl ?_))
    refine wl_u rfl (ow_y (yh_assign rfl rfl) rfl rfl (kk_wl ?_))
    refine wl_nil ?_
    exact ex_next [3, 4, 0, 1] (hn6 (n6, (s3_c_1 ++ [x23]), s4 + 1, a25, c25, F25) (Nat.lt_succ_self _) h) ⟨rfl, rfl, rfl, rfl, trivial⟩ (by kernel_rfl)
  · skip
    replace h := bf c1 h
    have q2 := ltb_false.1 c1
    refine cw_exit ?_
    refine ex_then_exit ?_
    refine ex_then_exit ?_
    obtain rfl := Option.some.inj h
    have h := go_brk hk6
    refine ex_block_exit ?_
    refine ex_seq ?_
    refine cw_seq ?_
    refine cw_region ?_
    refine wl_u rfl (ow_y (yh_loadBA Tb (k := 2) rfl rfl rfl rfl rfl rfl) rfl rfl (kk_wl ?_))
    refine wl_u rfl (ow_storeA Tb (k := 1) rfl rfl rfl rfl rfl rfl rfl rfl rfl (kk_wl ?_))
    refine wl_nil ?_
    refine ex_seq ?_
    refine cw_ret ?_
    obtain rfl := Option.some.inj h
    exact ex_r1 Tb rfl (.cellA 0 rfl rfl rfl rfl rfl) (fun wq hq => ⟨_, rfl, hq.ext, ⟨as3_c_1, cs3_c_1, Fs3_c_1, rfl, NewC.sel [3] hq rfl⟩⟩)

def m_spec_l6Rd_of (N : Nat) (cd : List UInt8) (p : Nat) (list_ : List Str) : Option ((Str) × Nat) := (m_spec_l6Rd_pick N cd p ((list_.length : Nat) : Int)).bind fun x9 => (geti list_ x9.1).bind fun y10 => some (y10, x9.2)

set_option maxHeartbeats 4000000 in
theorem c_spec_l6Rd_of (N : Nat) (cd : List UInt8) (p : Nat) (list_ : List Str) (res : (Str) × Nat) (h : m_spec_l6Rd_of N cd p list_ = some res) (w : World) {a_list_ : Option Addr} {c_list_ : Nat} {r ccd : Nat} {acd : Option Addr} (hr : (blkC r 113 [.slice acd cd.length ccd, .int .i64 ((p : Nat) : Int)]).A w) (hcd : bytesL.rd w [r] [.slice acd cd.length ccd] cd) (h_list_ : strsL.rd w [r] [.slice a_list_ list_.length c_list_] list_) : Ret Try.prog 131 [.pointer (some ⟨r, 0, none⟩), .slice a_list_ list_.length c_list_] w [r] fun v w' => v = .string res.1 ∧ NewM w w' [r] [blkC r 113 [.slice acd cd.length ccd, .int .i64 ((res.2 : Nat) : Int)]] := by
  have mh_list_ := rd_max h_list_
  have mhcd := rd_max hcd
  unfold m_spec_l6Rd_of at h
  refine ret_enter Try.func131 rfl Try.ntmps131 rfl (hp_one hr (by simp [blkC])) ?_
  refine cw_seq ?_
  refine cw_region ?_
  refine wl_u rfl (ow_y (yh_assign rfl rfl) rfl rfl (kk_wl ?_))
  refine wl_nil ?_
  refine ex_seq ?_
  refine cw_seq ?_
  refine cw_region ?_
  refine wl_u rfl (ow_y (yh_move rfl rfl) rfl rfl (kk_wl ?_))
  refine wl_u rfl (ow_y (yh_move rfl rfl) rfl rfl (kk_wl ?_))
  refine wl_u rfl (ow_y (yh_move rfl rfl) rfl rfl (kk_wl ?_))
  refine wl_u rfl (ow_y (yh_lenS Tb rfl rfl rfl rfl) rfl rfl (kk_wl ?_))
  obtain ⟨x9, hx9, h⟩ := bd h
  refine wl_u rfl (ow_cM0 0 rfl hb107 rfl rfl (fun w hw => c_spec_l6Rd_pick N _ _ _ _ hx9 w (hw.at (i := 0) rfl) (Lay.atR (i := 0) hcd rfl hw)) rfl rfl (kk_wl ?_))
  obtain ⟨y10, zy10, h⟩ := bd h
  obtain ⟨iy10, hy10⟩ := geti_some zy10
  obtain ⟨b10, o10, ha10⟩ := sl_addr h_list_ hy10
  subst ha10
  have hc10 := get_str h_list_ hy10
  refine wl_u rfl (ow_y (yh_idx Tb (k := x9.1.toNat) rfl rfl rfl iy10 (get_lt hy10) rfl rfl) rfl rfl (kk_wl ?_))
  refine wl_u rfl (ow_y (yh_loadA0 Tb rfl rfl rfl hc10 rfl) rfl rfl (kk_wl ?_))
  refine wl_u rfl (ow_y (yh_assign rfl rfl) rfl rfl (kk_wl ?_))
  refine wl_nil ?_
  refine ex_seq ?_
  refine cw_ret ?_
  obtain rfl := Option.some.inj h
  exact ex_r1 Tb rfl (.tmp rfl) (fun wq hq => ⟨_, rfl, hq.ext, ⟨rfl, NewM.sel [0] hq rfl⟩⟩)

def m_spec_l91Name (N : Nat) (cd : List UInt8) (p : Nat) : Option ((Str) × Nat) := (m_spec_l6Rd_pick N cd p 30).bind fun x4 => (bif eqb x4.1 0 then (m_spec_l6Rd_of N cd x4.2 ([(⟨#[]⟩ : Str), (⟨#[65]⟩ : Str), (⟨#[97, 98, 99, 100, 101, 102]⟩ : Str), (⟨#[97, 98, 99, 100, 101]⟩ : Str), (⟨#[97, 49]⟩ : Str)] : List Str)).bind fun x8 => some (x8.1, x8.2)
 else (m_spec_l6Rd_of N cd x4.2 ([(⟨#[97]⟩ : Str), (⟨#[98]⟩ : Str), (⟨#[99]⟩ : Str), (⟨#[100]⟩ : Str), (⟨#[101]⟩ : Str), (⟨#[102]⟩ : Str)] : List Str)).bind fun x11 => some (x11.1, x11.2))

set_option maxHeartbeats 4000000 in
theorem c_spec_l91Name (N : Nat) (cd : List UInt8) (p : Nat) (res : (Str) × Nat) (h : m_spec_l91Name N cd p = some res) (w : World) {r ccd : Nat} {acd : Option Addr} (hr : (blkC r 113 [.slice acd cd.length ccd, .int .i64 ((p : Nat) : Int)]).A w) (hcd : bytesL.rd w [r] [.slice acd cd.length ccd] cd) : Ret Try.prog 138 [.pointer (some ⟨r, 0, none⟩)] w [r] fun v w' => v = .string res.1 ∧ NewM w w' [r] [blkC r 113 [.slice acd cd.length ccd, .int .i64 ((res.2 : Nat) : Int)]] := by
  have mhcd := rd_max hcd
  unfold m_spec_l91Name at h
  refine ret_enter Try.func138 rfl Try.ntmps138 rfl (hp_one hr (by simp [blkC])) ?_
  refine cw_seq ?_
  refine cw_region ?_
  refine wl_u rfl (ow_y (yh_assign rfl rfl) rfl rfl (kk_wl ?_))
  refine wl_nil ?_
  refine ex_seq ?_
  refine cw_seq ?_
  refine cw_seq ?_
  refine cw_region ?_
  refine wl_u rfl (ow_y (yh_move rfl rfl) rfl rfl (kk_wl ?_))
  obtain ⟨x4, hx4, h⟩ := bd h
  have mp4 := pick_lt hx4 (by decide)
  refine wl_u rfl (ow_cM0 0 rfl hb107 rfl rfl (fun w hw => c_spec_l6Rd_pick N _ _ _ _ hx4 w (hw.at (i := 0) rfl) (Lay.atR (i := 0) hcd rfl hw)) rfl rfl (kk_wl ?_))
  refine wl_u rfl (ow_y (yh_cmpI rfl rfl rfl rfl) rfl rfl (kk_wl ?_))
  refine wl_nil ?_
  refine ex_seq ?_
  refine cw_split rfl (fun c1 => ?_) (fun c1 => ?_)
  · skip
    replace h := bt c1 h
    have q1 := eqb_true.1 c1
    refine cw_seq ?_
    refine cw_region ?_
    refine wl_u rfl (ow_y (yh_move rfl rfl) rfl rfl (kk_wl ?_))
    refine wl_u rfl (ow_lit1 Tb rfl rfl rfl rfl rfl rfl rfl rfl rfl rfl (fun g7 => kk_chg (c' := owC strsL [g7] [.slice (some ⟨g7, 0, none⟩) 5 5] ([(⟨#[]⟩ : Str), (⟨#[65]⟩ : Str), (⟨#[97, 98, 99, 100, 101, 102]⟩ : Str), (⟨#[97, 98, 99, 100, 101]⟩ : Str), (⟨#[97, 49]⟩ : Str)] : List Str)) 0 rfl (fun w hA => own_strsL ([(⟨#[]⟩ : Str), (⟨#[65]⟩ : Str), (⟨#[97, 98, 99, 100, 101, 102]⟩ : Str), (⟨#[97, 98, 99, 100, 101]⟩ : Str), (⟨#[97, 49]⟩ : Str)] : List Str) hA rfl (by simp [maxLen])) rfl (kk_wl ?_)))
    obtain ⟨x8, hx8, h⟩ := bd h
    refine wl_u rfl (ow_cM0 1 rfl hb131 rfl rfl (fun w hw => c_spec_l6Rd_of N _ _ _ _ hx8 w (hw.at (i := 1) rfl) (Lay.atR (i := 1) hcd rfl hw) (rdoR (A := strsL) 0 1 rfl rfl rfl hw)) rfl rfl (kk_wl ?_))
    refine wl_u rfl (ow_y (yh_assign rfl rfl) rfl rfl (kk_wl ?_))
    refine wl_nil ?_
    refine ex_seq ?_
    refine cw_ret ?_
    refine ex_then_ret ?_
    obtain rfl := Option.some.inj h
    exact ex_r1 Tb rfl (.tmp rfl) (fun wq hq => ⟨_, rfl, hq.ext, ⟨rfl, NewM.sel [0] hq rfl⟩⟩)
  · skip
    replace h := bf c1 h
    have q2 := eqb_false.1 c1
    refine cw_skip ?_
    refine ex_seq ?_
    refine cw_seq ?_
    refine cw_region ?_
    refine wl_u rfl (ow_y (yh_move rfl rfl) rfl rfl (kk_wl ?_))
    refine wl_u rfl (ow_lit1 Tb rfl rfl rfl rfl rfl rfl rfl rfl rfl rfl (fun g10 => kk_chg (c' := owC strsL [g10] [.slice (some ⟨g10, 0, none⟩) 6 6] ([(⟨#[97]⟩ : Str), (⟨#[98]⟩ : Str), (⟨#[99]⟩ : Str), (⟨#[100]⟩ : Str), (⟨#[101]⟩ : Str), (⟨#[102]⟩ : Str)] : List Str)) 0 rfl (fun w hA => own_strsL ([(⟨#[97]⟩ : Str), (⟨#[98]⟩ : Str), (⟨#[99]⟩ : Str), (⟨#[100]⟩ : Str), (⟨#[101]⟩ : Str), (⟨#[102]⟩ : Str)] : List Str) hA rfl (by simp [maxLen])) rfl (kk_wl ?_)))
    obtain ⟨x11, hx11, h⟩ := bd h
    refine wl_u rfl (ow_cM0 1 rfl hb131 rfl rfl (fun w hw => c_spec_l6Rd_of N _ _ _ _ hx11 w (hw.at (i := 1) rfl) (Lay.atR (i := 1) hcd rfl hw) (rdoR (A := strsL) 0 1 rfl rfl rfl hw)) rfl rfl (kk_wl ?_))
    refine wl_u rfl (ow_y (yh_assign rfl rfl) rfl rfl (kk_wl ?_))
    refine wl_nil ?_
    refine ex_seq ?_
    refine cw_ret ?_
    obtain rfl := Option.some.inj h
    exact ex_r1 Tb rfl (.tmp rfl) (fun wq hq => ⟨_, rfl, hq.ext, ⟨rfl, NewM.sel [0] hq rfl⟩⟩)

def m_spec_l91Step_L8 (N : Nat) (cd : List UInt8) (x7 : (Str) × Nat) : Nat → Nat → (List Str) → Nat → Option (Ex (Nat × List Str × Nat) ((Step) × Nat))
  | 0, _, _, _ => none
  | n + 1, s0_c_1, s3_c_1, s5 => (bif ltb ((s5 : Nat) : Int) 6 then (m_spec_l6Rd_pick N cd s0_c_1 4).bind fun x21 => (bif eqb x21.1 0 then (([(⟨#[97]⟩ : Str), (⟨#[98]⟩ : Str), (⟨#[99]⟩ : Str), (⟨#[100]⟩ : Str), (⟨#[101]⟩ : Str), (⟨#[102]⟩ : Str)] : List Str)[s5]?).bind fun y26 => (bif !(seq y26 x7.1) then (bif ltb ((s3_c_1.length : Nat) : Int) 4 then (appd s3_c_1 ([y26] : List Str)).bind fun l45 => m_spec_l91Step_L8 N cd x7 n x21.2 (s3_c_1 ++ ([y26] : List Str)) (s5 + 1)
 else m_spec_l91Step_L8 N cd x7 n x21.2 s3_c_1 (s5 + 1))
 else m_spec_l91Step_L8 N cd x7 n x21.2 s3_c_1 (s5 + 1))
 else m_spec_l91Step_L8 N cd x7 n x21.2 s3_c_1 (s5 + 1))
 else some (Ex.brk (s0_c_1, s3_c_1, s5)))

def m_spec_l91Step (N : Nat) (cd : List UInt8) (p : Nat) : Option ((Step) × Nat) := (m_spec_l91Name N cd p).bind fun x7 => (m_spec_l6Rd_pick N cd x7.2 3).bind fun x10 => (m_spec_l91Step_L8 N cd x7 N x10.2 ([] : List Str) 0).bind fun e8 => e8.go (fun r => r) fun b8 => (m_spec_l6Rd_pick N cd b8.1 30).bind fun x48 => (bif eqb x48.1 0 then some ((Step.mk x7.1 ([(⟨#[98]⟩ : Str), (⟨#[97]⟩ : Str)] : List Str) (ltb 0 x10.1)), x48.2)
 else (bif eqb x48.1 1 then some ((Step.mk x7.1 ([(⟨#[97]⟩ : Str), (⟨#[98]⟩ : Str), (⟨#[99]⟩ : Str), (⟨#[100]⟩ : Str), (⟨#[101]⟩ : Str)] : List Str) (ltb 0 x10.1)), x48.2)
 else (bif eqb x48.1 2 then some ((Step.mk x7.1 ([x7.1] : List Str) (ltb 0 x10.1)), x48.2)
 else some ((Step.mk x7.1 b8.2.1 (ltb 0 x10.1)), x48.2))))

set_option maxHeartbeats 4000000 in
theorem c_spec_l91Step (N : Nat) (cd : List UInt8) (p : Nat) (res : (Step) × Nat) (h : m_spec_l91Step N cd p = some res) (w : World) {r ccd : Nat} {acd : Option Addr} (hr : (blkC r 113 [.slice acd cd.length ccd, .int .i64 ((p : Nat) : Int)]).A w) (hcd : bytesL.rd w [r] [.slice acd cd.length ccd] cd) : Ret Try.prog 130 [.pointer (some ⟨r, 0, none⟩)] w [r] fun v w' => ∃ a1 c1 F1, v = .agg #[.string res.1.name, .slice a1 res.1.after.length c1, .bool res.1.undo] ∧ NewM w w' [r] [owC strsL F1 [.slice a1 res.1.after.length c1] res.1.after, blkC r 113 [.slice acd cd.length ccd, .int .i64 ((res.2 : Nat) : Int)]] := by
  have mhcd := rd_max hcd
  unfold m_spec_l91Step at h
  refine ret_enter Try.func130 rfl Try.ntmps130 rfl (hp_one hr (by simp [blkC])) ?_
  refine cw_seq ?_
  refine cw_region ?_
  refine wl_u rfl (ow_allocA Tb rfl rfl rfl rfl (fun g2 => kk_wl ?_))
  refine wl_nil ?_
  refine ex_seq ?_
  refine cw_seq ?_
  refine cw_region ?_
  refine wl_u rfl (ow_y (yh_move rfl rfl) rfl rfl (kk_wl ?_))
  obtain ⟨x7, hx7, h⟩ := bd h
  refine wl_u rfl (ow_cM0 1 rfl hb138 rfl rfl (fun w hw => c_spec_l91Name N _ _ _ hx7 w (hw.at (i := 1) rfl) (Lay.atR (i := 1) hcd rfl hw)) rfl rfl (kk_wl ?_))
  refine wl_u rfl (ow_lit0 Tb rfl rfl rfl rfl rfl rfl (fun g8 => kk_chg (c' := owC strsL [g8] [.slice (some ⟨g8, 0, none⟩) 0 0] ([] : List Str)) 0 rfl (fun w hA => own_strsL ([] : List Str) hA rfl (by simp [maxLen])) rfl (kk_wl ?_)))
  refine wl_u rfl (ow_y (yh_move rfl rfl) rfl rfl (kk_wl ?_))
  obtain ⟨x10, hx10, h⟩ := bd h
  have mp10 := pick_lt hx10 (by decide)
  refine wl_u rfl (ow_cM0 1 rfl hb107 rfl rfl (fun w hw => c_spec_l6Rd_pick N _ _ _ _ hx10 w (hw.at (i := 1) rfl) (Lay.atR (i := 1) hcd rfl hw)) rfl rfl (kk_wl ?_))
  refine wl_u rfl (ow_y (yh_cmpI rfl rfl rfl rfl) rfl rfl (kk_wl ?_))
  refine wl_u rfl (ow_y (yh_buildA rfl rfl (by kernel_rfl)) rfl rfl (kk_wl ?_))
  refine wl_u rfl (ow_allocA Tb rfl rfl rfl rfl (fun g3 => kk_wl ?_))
  refine wl_u rfl (ow_storeA Tb (k := 0) rfl rfl rfl rfl rfl rfl rfl rfl rfl (kk_wl ?_))
  refine wl_nil ?_
  refine ex_seq ?_
  refine cw_seq ?_
  refine cw_region ?_
  refine wl_u rfl (ow_lit1 Tb rfl rfl rfl rfl rfl rfl rfl rfl rfl rfl (fun g13 => kk_chg (c' := owC strsL [g13] [.slice (some ⟨g13, 0, none⟩) 6 6] ([(⟨#[97]⟩ : Str), (⟨#[98]⟩ : Str), (⟨#[99]⟩ : Str), (⟨#[100]⟩ : Str), (⟨#[101]⟩ : Str), (⟨#[102]⟩ : Str)] : List Str)) 0 rfl (fun w hA => own_strsL ([(⟨#[97]⟩ : Str), (⟨#[98]⟩ : Str), (⟨#[99]⟩ : Str), (⟨#[100]⟩ : Str), (⟨#[101]⟩ : Str), (⟨#[102]⟩ : Str)] : List Str) hA rfl (by simp [maxLen])) rfl (kk_wl ?_)))
  refine wl_u rfl (ow_y (yh_assign rfl rfl) rfl rfl (kk_wl ?_))
  refine wl_nil ?_
  refine ex_seq ?_
  refine cw_seq ?_
  refine cw_seq ?_
  refine cw_region ?_
  refine wl_u rfl (ow_y (yh_assign rfl rfl) rfl rfl (kk_wl ?_))
  refine wl_nil ?_
  refine ex_seq ?_
  refine cw_block ?_
  obtain ⟨e8, he8, hk8⟩ := bd h
  clear h
  refine cw_loopG (σ := Nat × Nat × (List Str) × Nat × (Option Addr) × Nat × (List Nat)) (fun s => m_spec_l91Step_L8 N cd x7 s.1 s.2.1 s.2.2.1 s.2.2.2.1 = some e8) (fun s => [(0, .pointer (some ⟨r, 0, none⟩)), (2, .pointer (some ⟨g2, 0, none⟩)), (3, .pointer (some ⟨g3, 0, none⟩)), (4, .slice (some ⟨g13, 0, none⟩) 6 6), (5, .int .i64 ((s.2.2.2.1 : Nat) : Int))]) (fun s => [blkC r 113 [.slice acd cd.length ccd, .int .i64 ((s.2.1 : Nat) : Int)], blkC g2 100 [.string (⟨#[]⟩ : Str), .slice none 0 0, .bool false], blkC g3 100 [.string x7.1, .slice s.2.2.2.2.1 s.2.2.1.length s.2.2.2.2.2.1, .bool (ltb 0 x10.1)], owC strsL s.2.2.2.2.2.2 [.slice s.2.2.2.2.1 s.2.2.1.length s.2.2.2.2.2.1] s.2.2.1, owC strsL [g13] [.slice (some ⟨g13, 0, none⟩) 6 6] ([(⟨#[97]⟩ : Str), (⟨#[98]⟩ : Str), (⟨#[99]⟩ : Str), (⟨#[100]⟩ : Str), (⟨#[101]⟩ : Str), (⟨#[102]⟩ : Str)] : List Str)]) (fun s => s.1) (N, x10.2, ([] : List Str), 0, (some ⟨g8, 0, none⟩), 0, [g8]) [2, 4, 1, 3, 0] he8 ⟨rfl, rfl, rfl, rfl, rfl, trivial⟩ rfl (fun KL s he8 hn8 => ?_)
  obtain ⟨n8, s0_c_1, s3_c_1, s5, as3_c_1, cs3_c_1, Fs3_c_1⟩ := s
  simp only at he8 hn8 ⊢
  rcases n8 with _ | n8
  · exact nosome he8
  have h := he8; rw [m_spec_l91Step_L8] at h
  refine cw_seq ?_
  refine cw_seq ?_
  refine cw_region ?_
  refine wl_u rfl (ow_y (yh_move rfl rfl) rfl rfl (kk_wl ?_))
  refine wl_u rfl (ow_y (yh_move rfl rfl) rfl rfl (kk_wl ?_))
  refine wl_u rfl (ow_y (yh_lenS Tb rfl rfl rfl rfl) rfl rfl (kk_wl ?_))
  refine wl_u rfl (ow_y (yh_cmpI rfl rfl rfl rfl) rfl rfl (kk_wl ?_))
  refine wl_nil ?_
  refine ex_seq ?_
  refine cw_split rfl (fun c1 => ?_) (fun c1 => ?_)
  · skip
    replace h := bt c1 h
    have q1 := ltb_true.1 c1
    refine cw_skip ?_
    refine ex_seq ?_
    refine cw_seq ?_
    refine cw_block ?_
    refine cw_seq ?_
    refine cw_dr [0, 2, 3, 4, 5, 6, 7, 8, 9, 10, 11, 12, 13, 14, 15, 16, 17] [] [blkC g2 100 [.string (⟨#[]⟩ : Str), .slice none 0 0, .bool false], blkC g3 100 [.string x7.1, .slice as3_c_1 s3_c_1.length cs3_c_1, .bool (ltb 0 x10.1)], owC strsL Fs3_c_1 [.slice as3_c_1 s3_c_1.length cs3_c_1] s3_c_1, owC strsL [g13] [.slice (some ⟨g13, 0, none⟩) 6 6] ([(⟨#[97]⟩ : Str), (⟨#[98]⟩ : Str), (⟨#[99]⟩ : Str), (⟨#[100]⟩ : Str), (⟨#[101]⟩ : Str), (⟨#[102]⟩ : Str)] : List Str)] (by kernel_rfl) ?_
    refine wd_take (i := 0) [1, 2, 3, 4] rfl rfl rfl rfl rfl (by kernel_rfl) (by kernel_rfl) (fun _ _ _ _ h => h) (yh_move rfl rfl) ?_
    obtain ⟨x21, hx21, h⟩ := bd h
    have mp21 := pick_lt hx21 (by decide)
    refine wd_one 1 rfl rfl (by kernel_rfl) (ow_cM0 0 rfl hb107 rfl rfl (fun w hw => c_spec_l6Rd_pick N _ _ _ _ hx21 w (hw.at (i := 0) rfl) (Lay.atR (i := 0) hcd rfl hw)) rfl rfl (kk_wd [1, 2, 3, 4] (by kernel_rfl) ?_))
    refine wd_take (i := 2) [1, 2, 3, 4] rfl rfl rfl rfl rfl (by kernel_rfl) (by kernel_rfl) (fun _ _ _ _ h => h) (yh_cmpI rfl rfl rfl rfl) ?_
    refine wd_take (i := 3) [1, 2, 3, 4] rfl rfl rfl rfl rfl (by kernel_rfl) (by kernel_rfl) (fun _ _ _ _ h => h) (yh_move rfl rfl) ?_
    refine wd_split 4 rfl rfl rfl (fun c2 => ?_) (fun c2 => ?_)
    · skip
      replace h := bt c2 h
      have q2 := eqb_true.1 c2
      refine wd_take (i := 4) [1, 2, 3, 4] rfl rfl rfl rfl rfl (by kernel_rfl) (by kernel_rfl) (fun _ _ _ _ h => h) (yh_move rfl rfl) ?_
      refine wd_take (i := 5) [1, 2, 3, 4] rfl rfl rfl rfl rfl (by kernel_rfl) (by kernel_rfl) (fun _ _ _ _ h => h) (yh_move rfl rfl) ?_
      obtain ⟨y26, hy26, h⟩ := bd h
      refine wd_take (i := 6) [1, 2, 3, 4] rfl rfl rfl rfl rfl (by kernel_rfl) (by kernel_rfl) (fun _ _ _ _ h => h) (yh_idx Tb (k := s5) rfl rfl rfl rfl (get_lt hy26) rfl rfl) ?_
      refine wd_take (i := 7) [1, 2, 3, 4] rfl rfl rfl rfl rfl (by kernel_rfl) (by kernel_rfl) (fun _ _ _ _ h => h) (yh_loadO0 Tb 3 rfl rfl rfl rfl rfl hy26 rfl) ?_
      refine wd_take (i := 8) [1, 2, 3, 4] rfl rfl rfl rfl rfl (by kernel_rfl) (by kernel_rfl) (fun _ _ _ _ h => h) (yh_field Tb rfl rfl rfl) ?_
      refine wd_take (i := 9) [1, 2, 3, 4] rfl rfl rfl rfl rfl (by kernel_rfl) (by kernel_rfl) (fun _ _ _ _ h => h) (yh_loadB Tb (k := 1) rfl rfl rfl rfl rfl) ?_
      refine wd_take (i := 10) [1, 2, 3, 4] rfl rfl rfl rfl rfl (by kernel_rfl) (by kernel_rfl) (fun _ _ _ _ h => h) (yh_cmpS rfl rfl rfl rfl) ?_
      refine wd_take (i := 11) [1, 2, 3, 4] rfl rfl rfl rfl rfl (by kernel_rfl) (by kernel_rfl) (fun _ _ _ _ h => h) (yh_pickT rfl rfl rfl) ?_
      refine wd_take (i := 12) [1, 2, 3, 4] rfl rfl rfl rfl rfl (by kernel_rfl) (by kernel_rfl) (fun _ _ _ _ h => h) (yh_move rfl rfl) ?_
      refine wd_split 13 rfl rfl rfl (fun c3 => ?_) (fun c3 => ?_)
      · skip
        replace h := bt c3 h
        refine wd_take (i := 13) [1, 2, 3, 4] rfl rfl rfl rfl rfl (by kernel_rfl) (by kernel_rfl) (fun _ _ _ _ h => h) (yh_field Tb rfl rfl rfl) ?_
        refine wd_take (i := 14) [1, 2, 3, 4] rfl rfl rfl rfl rfl (by kernel_rfl) (by kernel_rfl) (fun _ _ _ _ h => h) (yh_loadB Tb (k := 1) rfl rfl rfl rfl rfl) ?_
        refine wd_know (s3_c_1.length ≤ 9223372036854775807) (fun w hw => own_max 3 rfl hw) (fun mo35 => ?_)
        refine wd_take (i := 15) [1, 2, 3, 4] rfl rfl rfl rfl rfl (by kernel_rfl) (by kernel_rfl) (fun _ _ _ _ h => h) (yh_lenS Tb rfl rfl rfl rfl) ?_
        refine wd_take (i := 16) [1, 2, 3, 4] rfl rfl rfl rfl rfl (by kernel_rfl) (by kernel_rfl) (fun _ _ _ _ h => h) (yh_cmpI rfl rfl rfl rfl) ?_
        refine wd_take (i := 17) [1, 2, 3, 4] rfl rfl rfl rfl rfl (by kernel_rfl) (by kernel_rfl) (fun _ _ _ _ h => h) (yh_pickT rfl rfl rfl) ?_
        refine wd_done (by kernel_rfl) ?_
        refine ex_seq ?_
        refine cw_split rfl (fun c4 => ?_) (fun c4 => ?_)
        · skip
          replace h := bt c4 h
          have q3 := ltb_true.1 c4
          refine cw_dr [0, 1, 2, 3, 4, 5] [7, 8, 9] [blkC r 113 [.slice acd cd.length ccd, .int .i64 ((x21.2 : Nat) : Int)], blkC g2 100 [.string (⟨#[]⟩ : Str), .slice none 0 0, .bool false], blkC g3 100 [.string x7.1, .slice as3_c_1 s3_c_1.length cs3_c_1, .bool (ltb 0 x10.1)], owC strsL Fs3_c_1 [.slice as3_c_1 s3_c_1.length cs3_c_1] s3_c_1, owC strsL [g13] [.slice (some ⟨g13, 0, none⟩) 6 6] ([(⟨#[97]⟩ : Str), (⟨#[98]⟩ : Str), (⟨#[99]⟩ : Str), (⟨#[100]⟩ : Str), (⟨#[101]⟩ : Str), (⟨#[102]⟩ : Str)] : List Str)] (by kernel_rfl) ?_
          refine wd_take (i := 0) [0, 1, 2, 3, 4] rfl rfl rfl rfl rfl (by kernel_rfl) (by kernel_rfl) (fun _ _ _ _ h => h) (yh_field Tb rfl rfl rfl) ?_
          refine wd_take (i := 1) [0, 1, 2, 3, 4] rfl rfl rfl rfl rfl (by kernel_rfl) (by kernel_rfl) (fun _ _ _ _ h => h) (yh_loadB Tb (k := 2) rfl rfl rfl rfl rfl) ?_
          refine wd_take (i := 2) [0, 1, 2, 3, 4] rfl rfl rfl rfl rfl (by kernel_rfl) (by kernel_rfl) (fun _ _ _ _ h => h) (yh_move rfl rfl) ?_
          refine wd_take (i := 3) [0, 1, 2, 3, 4] rfl rfl rfl rfl rfl (by kernel_rfl) (by kernel_rfl) (fun _ _ _ _ h => h) (yh_move rfl rfl) ?_
          refine wd_take (i := 4) [0, 1, 2, 3, 4] rfl rfl rfl rfl rfl (by kernel_rfl) (by kernel_rfl) (fun _ _ _ _ h => h) (yh_idx Tb (k := s5) rfl rfl rfl rfl (get_lt hy26) rfl rfl) ?_
          refine wd_take (i := 5) [0, 1, 2, 3, 4] rfl rfl rfl rfl rfl (by kernel_rfl) (by kernel_rfl) (fun _ _ _ _ h => h) (yh_loadO0 Tb 4 rfl rfl rfl rfl rfl hy26 rfl) ?_
          refine wd_one 6 rfl rfl (by kernel_rfl) (ow_lit1 Tb rfl rfl rfl rfl rfl rfl rfl rfl rfl rfl (fun g44 => kk_chg (c' := owC strsL [g44] [.slice (some ⟨g44, 0, none⟩) 1 1] ([y26] : List Str)) 0 rfl (fun w hA => own_strsL ([y26] : List Str) hA rfl (by simp [maxLen])) rfl (kk_wd [1, 2, 3, 4, 5] (by kernel_rfl) ?_)))
          obtain ⟨hll45, h⟩ := bd_appd h
          refine wd_one 7 rfl rfl (by kernel_rfl) (ow_appP Tb (i := 4) rfl rfl rfl rfl rfl (fun w hw => rdo (A := strsL) 0 rfl hw) rfl rfl rfl rfl hll45 (by decide) rfl rfl (fun a45 c45 F45 => kk_wdT rfl ?_))
          refine wd_one 8 rfl rfl (by kernel_rfl) (ow_y (yh_field Tb rfl rfl rfl) rfl rfl (kk_wdT rfl ?_))
          refine wd_one 9 rfl rfl (by kernel_rfl) (ow_store1 Tb (k := 4) rfl rfl rfl rfl rfl rfl rfl rfl rfl (kk_wdT rfl ?_))
          refine wd_done (by kernel_rfl) ?_
          refine ex_block_normal ?_
          refine ex_seq ?_
          refine cw_region ?_
          refine wl_u rfl (ow_y (yh_move rfl rfl) rfl rfl (kk_wl ?_))
          refine wl_u rfl (ow_y (yh_arI rfl rfl rfl rfl (by omega)) rfl rfl (kk_wl ?_))
          refine wl_u rfl (ow_y (yh_assign rfl rfl) rfl rfl (kk_wl ?_))
          refine wl_nil ?_
          exact ex_next [3, 4, 0, 1, 5] (hn8 (n8, x21.2, (s3_c_1 ++ ([y26] : List Str)), s5 + 1, a45, c45, F45) (Nat.lt_succ_self _) h) ⟨rfl, rfl, rfl, rfl, rfl, trivial⟩ (by kernel_rfl)
        · skip
          replace h := bf c4 h
          have q4 := ltb_false.1 c4
          refine cw_skip ?_
          refine ex_block_normal ?_
          refine ex_seq ?_
          refine cw_region ?_
          refine wl_u rfl (ow_y (yh_move rfl rfl) rfl rfl (kk_wl ?_))
          refine wl_u rfl (ow_y (yh_arI rfl rfl rfl rfl (by omega)) rfl rfl (kk_wl ?_))
          refine wl_u rfl (ow_y (yh_assign rfl rfl) rfl rfl (kk_wl ?_))
          refine wl_nil ?_
          exact ex_next [0, 1, 2, 3, 4] (hn8 (n8, x21.2, s3_c_1, s5 + 1, as3_c_1, cs3_c_1, Fs3_c_1) (Nat.lt_succ_self _) h) ⟨rfl, rfl, rfl, rfl, rfl, trivial⟩ (by kernel_rfl)
      · skip
        replace h := bf c3 h
        refine wd_skip (i := 13) [1, 2, 3, 4] rfl rfl rfl rfl (by kernel_rfl) (by kernel_rfl) (fun _ _ _ h => h) ?_
        refine wd_skip (i := 14) [1, 2, 3, 4] rfl rfl rfl rfl (by kernel_rfl) (by kernel_rfl) (fun _ _ _ h => h) ?_
        refine wd_skip (i := 15) [1, 2, 3, 4] rfl rfl rfl rfl (by kernel_rfl) (by kernel_rfl) (fun _ _ _ h => h) ?_
        refine wd_skip (i := 16) [1, 2, 3, 4] rfl rfl rfl rfl (by kernel_rfl) (by kernel_rfl) (fun _ _ _ h => h) ?_
        refine wd_take (i := 17) [1, 2, 3, 4] rfl rfl rfl rfl rfl (by kernel_rfl) (by kernel_rfl) (fun _ _ _ _ h => h) (yh_pickF rfl rfl rfl) ?_
        refine wd_done (by kernel_rfl) ?_
        refine ex_seq ?_
        refine cw_false rfl ?_
        refine cw_skip ?_
        refine ex_block_normal ?_
        refine ex_seq ?_
        refine cw_region ?_
        refine wl_u rfl (ow_y (yh_move rfl rfl) rfl rfl (kk_wl ?_))
        refine wl_u rfl (ow_y (yh_arI rfl rfl rfl rfl (by omega)) rfl rfl (kk_wl ?_))
        refine wl_u rfl (ow_y (yh_assign rfl rfl) rfl rfl (kk_wl ?_))
        refine wl_nil ?_
        exact ex_next [0, 1, 2, 3, 4] (hn8 (n8, x21.2, s3_c_1, s5 + 1, as3_c_1, cs3_c_1, Fs3_c_1) (Nat.lt_succ_self _) h) ⟨rfl, rfl, rfl, rfl, rfl, trivial⟩ (by kernel_rfl)
    · skip
      replace h := bf c2 h
      have q5 := eqb_false.1 c2
      refine wd_skip (i := 4) [1, 2, 3, 4] rfl rfl rfl rfl (by kernel_rfl) (by kernel_rfl) (fun _ _ _ h => h) ?_
      refine wd_skip (i := 5) [1, 2, 3, 4] rfl rfl rfl rfl (by kernel_rfl) (by kernel_rfl) (fun _ _ _ h => h) ?_
      refine wd_skip (i := 6) [1, 2, 3, 4] rfl rfl rfl rfl (by kernel_rfl) (by kernel_rfl) (fun _ _ _ h => h) ?_
      refine wd_skip (i := 7) [1, 2, 3, 4] rfl rfl rfl rfl (by kernel_rfl) (by kernel_rfl) (fun _ _ _ h => h) ?_
      refine wd_skip (i := 8) [1, 2, 3, 4] rfl rfl rfl rfl (by kernel_rfl) (by kernel_rfl) (fun _ _ _ h => h) ?_
      refine wd_skip (i := 9) [1, 2, 3, 4] rfl rfl rfl rfl (by kernel_rfl) (by kernel_rfl) (fun _ _ _ h => h) ?_
      refine wd_skip (i := 10) [1, 2, 3, 4] rfl rfl rfl rfl (by kernel_rfl) (by kernel_rfl) (fun _ _ _ h => h) ?_
      refine wd_take (i := 11) [1, 2, 3, 4] rfl rfl rfl rfl rfl (by kernel_rfl) (by kernel_rfl) (fun _ _ _ _ h => h) (yh_pickF rfl rfl rfl) ?_
      refine wd_take (i := 12) [1, 2, 3, 4] rfl rfl rfl rfl rfl (by kernel_rfl) (by kernel_rfl) (fun _ _ _ _ h => h) (yh_move rfl rfl) ?_
      refine wd_split 13 rfl rfl rfl nofun (fun _ => ?_)
      refine wd_skip (i := 13) [1, 2, 3, 4] rfl rfl rfl rfl (by kernel_rfl) (by kernel_rfl) (fun _ _ _ h => h) ?_
      refine wd_skip (i := 14) [1, 2, 3, 4] rfl rfl rfl rfl (by kernel_rfl) (by kernel_rfl) (fun _ _ _ h => h) ?_
      refine wd_skip (i := 15) [1, 2, 3, 4] rfl rfl rfl rfl (by kernel_rfl) (by kernel_rfl) (fun _ _ _ h => h) ?_
      refine wd_skip (i := 16) [1, 2, 3, 4] rfl rfl rfl rfl (by kernel_rfl) (by kernel_rfl) (fun _ _ _ h => h) ?_
      refine wd_take (i := 17) [1, 2, 3, 4] rfl rfl rfl rfl rfl (by kernel_rfl) (by kernel_rfl) (fun _ _ _ _ h => h) (yh_pickF rfl rfl rfl) ?_
      refine wd_done (by kernel_rfl) ?_
      refine ex_seq ?_
      refine cw_false rfl ?_
      refine cw_skip ?_
      refine ex_block_normal ?_
      refine ex_seq ?_
      refine cw_region ?_
      refine wl_u rfl (ow_y (yh_move rfl rfl) rfl rfl (kk_wl ?_))
      refine wl_u rfl (ow_y (yh_arI rfl rfl rfl rfl (by omega)) rfl rfl (kk_wl ?_))
      refine wl_u rfl (ow_y (yh_assign rfl rfl) rfl rfl (kk_wl ?_))
      refine wl_nil ?_
      exact ex_next [0, 1, 2, 3, 4] (hn8 (n8, x21.2, s3_c_1, s5 + 1, as3_c_1, cs3_c_1, Fs3_c_1) (Nat.lt_succ_self _) h) ⟨rfl, rfl, rfl, rfl, rfl, trivial⟩ (by kernel_rfl)
  · skip
    replace h := bf c1 h
    have q6 := ltb_false.1 c1
    refine cw_exit ?_
    refine ex_then_exit ?_
    refine ex_then_exit ?_
    obtain rfl := Option.some.inj h
    have h := go_brk hk8
    refine ex_block_exit ?_
    refine ex_seq ?_
    refine cw_seq ?_
    refine cw_seq ?_
    refine cw_region ?_
    refine wl_u rfl (ow_y (yh_move rfl rfl) rfl rfl (kk_wl ?_))
    obtain ⟨x48, hx48, h⟩ := bd h
    have mp48 := pick_lt hx48 (by decide)
    refine wl_u rfl (ow_cM0 0 rfl hb107 rfl rfl (fun w hw => c_spec_l6Rd_pick N _ _ _ _ hx48 w (hw.at (i := 0) rfl) (Lay.atR (i := 0) hcd rfl hw)) rfl rfl (kk_wl ?_))
    refine wl_nil ?_
    refine ex_seq ?_
    refine cw_block ?_
    refine cw_seq ?_
    refine cw_region ?_
    refine wl_u rfl (ow_y (yh_cmpI rfl rfl rfl rfl) rfl rfl (kk_wl ?_))
    refine wl_u rfl (ow_y (yh_assign rfl rfl) rfl rfl (kk_wl ?_))
    refine wl_nil ?_
    refine ex_seq ?_
    refine cw_split rfl (fun c5 => ?_) (fun c5 => ?_)
    · skip
      replace h := bt c5 h
      have q7 := eqb_true.1 c5
      refine cw_region ?_
      refine wl_u rfl (ow_lit1 Tb rfl rfl rfl rfl rfl rfl rfl rfl rfl rfl (fun g51 => kk_chg (c' := owC strsL [g51] [.slice (some ⟨g51, 0, none⟩) 2 2] ([(⟨#[98]⟩ : Str), (⟨#[97]⟩ : Str)] : List Str)) 0 rfl (fun w hA => own_strsL ([(⟨#[98]⟩ : Str), (⟨#[97]⟩ : Str)] : List Str) hA rfl (by simp [maxLen])) rfl (kk_wl ?_)))
      refine wl_u rfl (ow_y (yh_field Tb rfl rfl rfl) rfl rfl (kk_wl ?_))
      refine wl_u rfl (ow_store1 Tb (k := 3) rfl rfl rfl rfl rfl rfl rfl rfl rfl (kk_wl ?_))
      refine wl_nil ?_
      refine ex_block_normal ?_
      refine ex_seq ?_
      refine cw_seq ?_
      refine cw_region ?_
      refine wl_u rfl (ow_y (yh_loadBA Tb (k := 0) rfl rfl rfl rfl rfl rfl) rfl rfl (kk_wl ?_))
      refine wl_u rfl (ow_storeA Tb (k := 3) rfl rfl rfl rfl rfl rfl rfl rfl rfl (kk_wl ?_))
      refine wl_nil ?_
      refine ex_seq ?_
      refine cw_ret ?_
      obtain rfl := Option.some.inj h
      exact ex_r1 Tb rfl (.cellA 0 rfl rfl rfl rfl rfl) (fun wq hq => ⟨_, rfl, hq.ext, ⟨(some ⟨g51, 0, none⟩), 2, [g51], rfl, NewM.sel [2, 3] hq rfl⟩⟩)
    · skip
      replace h := bf c5 h
      have q8 := eqb_false.1 c5
      refine cw_seq ?_
      refine cw_region ?_
      refine wl_u rfl (ow_y (yh_cmpI rfl rfl rfl rfl) rfl rfl (kk_wl ?_))
      refine wl_u rfl (ow_y (yh_assign rfl rfl) rfl rfl (kk_wl ?_))
      refine wl_nil ?_
      refine ex_seq ?_
      refine cw_split rfl (fun c6 => ?_) (fun c6 => ?_)
      · skip
        replace h := bt c6 h
        have q9 := eqb_true.1 c6
        refine cw_region ?_
        refine wl_u rfl (ow_lit1 Tb rfl rfl rfl rfl rfl rfl rfl rfl rfl rfl (fun g55 => kk_chg (c' := owC strsL [g55] [.slice (some ⟨g55, 0, none⟩) 5 5] ([(⟨#[97]⟩ : Str), (⟨#[98]⟩ : Str), (⟨#[99]⟩ : Str), (⟨#[100]⟩ : Str), (⟨#[101]⟩ : Str)] : List Str)) 0 rfl (fun w hA => own_strsL ([(⟨#[97]⟩ : Str), (⟨#[98]⟩ : Str), (⟨#[99]⟩ : Str), (⟨#[100]⟩ : Str), (⟨#[101]⟩ : Str)] : List Str) hA rfl (by simp [maxLen])) rfl (kk_wl ?_)))
        refine wl_u rfl (ow_y (yh_field Tb rfl rfl rfl) rfl rfl (kk_wl ?_))
        refine wl_u rfl (ow_store1 Tb (k := 3) rfl rfl rfl rfl rfl rfl rfl rfl rfl (kk_wl ?_))
        refine wl_nil ?_
        refine ex_block_normal ?_
        refine ex_seq ?_
        refine cw_seq ?_
        refine cw_region ?_
        refine wl_u rfl (ow_y (yh_loadBA Tb (k := 0) rfl rfl rfl rfl rfl rfl) rfl rfl (kk_wl ?_))
        refine wl_u rfl (ow_storeA Tb (k := 3) rfl rfl rfl rfl rfl rfl rfl rfl rfl (kk_wl ?_))
        refine wl_nil ?_
        refine ex_seq ?_
        refine cw_ret ?_
        obtain rfl := Option.some.inj h
        exact ex_r1 Tb rfl (.cellA 0 rfl rfl rfl rfl rfl) (fun wq hq => ⟨_, rfl, hq.ext, ⟨(some ⟨g55, 0, none⟩), 5, [g55], rfl, NewM.sel [2, 3] hq rfl⟩⟩)
      · skip
        replace h := bf c6 h
        have q10 := eqb_false.1 c6
        refine cw_seq ?_
        refine cw_region ?_
        refine wl_u rfl (ow_y (yh_cmpI rfl rfl rfl rfl) rfl rfl (kk_wl ?_))
        refine wl_u rfl (ow_y (yh_assign rfl rfl) rfl rfl (kk_wl ?_))
        refine wl_nil ?_
        refine ex_seq ?_
        refine cw_split rfl (fun c7 => ?_) (fun c7 => ?_)
        · skip
          replace h := bt c7 h
          have q11 := eqb_true.1 c7
          refine cw_region ?_
          refine wl_u rfl (ow_y (yh_field Tb rfl rfl rfl) rfl rfl (kk_wl ?_))
          refine wl_u rfl (ow_y (yh_loadB Tb (k := 2) rfl rfl rfl rfl rfl) rfl rfl (kk_wl ?_))
          refine wl_u rfl (ow_lit1 Tb rfl rfl rfl rfl rfl rfl rfl rfl rfl rfl (fun g61 => kk_chg (c' := owC strsL [g61] [.slice (some ⟨g61, 0, none⟩) 1 1] ([x7.1] : List Str)) 0 rfl (fun w hA => own_strsL ([x7.1] : List Str) hA rfl (by simp [maxLen])) rfl (kk_wl ?_)))
          refine wl_u rfl (ow_y (yh_field Tb rfl rfl rfl) rfl rfl (kk_wl ?_))
          refine wl_u rfl (ow_store1 Tb (k := 3) rfl rfl rfl rfl rfl rfl rfl rfl rfl (kk_wl ?_))
          refine wl_nil ?_
          refine ex_block_normal ?_
          refine ex_seq ?_
          refine cw_seq ?_
          refine cw_region ?_
          refine wl_u rfl (ow_y (yh_loadBA Tb (k := 0) rfl rfl rfl rfl rfl rfl) rfl rfl (kk_wl ?_))
          refine wl_u rfl (ow_storeA Tb (k := 3) rfl rfl rfl rfl rfl rfl rfl rfl rfl (kk_wl ?_))
          refine wl_nil ?_
          refine ex_seq ?_
          refine cw_ret ?_
          obtain rfl := Option.some.inj h
          exact ex_r1 Tb rfl (.cellA 0 rfl rfl rfl rfl rfl) (fun wq hq => ⟨_, rfl, hq.ext, ⟨(some ⟨g61, 0, none⟩), 1, [g61], rfl, NewM.sel [2, 3] hq rfl⟩⟩)
        · skip
          replace h := bf c7 h
          have q12 := eqb_false.1 c7
          refine cw_skip ?_
          refine ex_block_normal ?_
          refine ex_seq ?_
          refine cw_seq ?_
          refine cw_region ?_
          refine wl_u rfl (ow_y (yh_loadBA Tb (k := 2) rfl rfl rfl rfl rfl rfl) rfl rfl (kk_wl ?_))
          refine wl_u rfl (ow_storeA Tb (k := 1) rfl rfl rfl rfl rfl rfl rfl rfl rfl (kk_wl ?_))
          refine wl_nil ?_
          refine ex_seq ?_
          refine cw_ret ?_
          obtain rfl := Option.some.inj h
          exact ex_r1 Tb rfl (.cellA 0 rfl rfl rfl rfl rfl) (fun wq hq => ⟨_, rfl, hq.ext, ⟨as3_c_1, cs3_c_1, Fs3_c_1, rfl, NewM.sel [3, 1] hq rfl⟩⟩)

def m_spec_l92Change_L11 (N : Nat) (cd : List UInt8) (u1 : Flow) (j103 : Nat × Str) : Nat → Nat → (List Str) → Nat → Option (Ex (Nat × List Str × Nat) ((Change) × Nat))
  | 0, _, _, _ => none
  | n + 1, s0_c_1, s6, s7 => (bif ltb ((s7 : Nat) : Int) ((u1.steps.length : Nat) : Int) then (bif ltb ((s6.length : Nat) : Int) 4 then (u1.steps[s7]?).bind fun y53 => (bif !(seq y53.name j103.2) then (m_spec_l6Rd_pick N cd s0_c_1 4).bind fun x62 => (bif eqb x62.1 0 then (appd s6 ([y53.name] : List Str)).bind fun l73 => m_spec_l92Change_L11 N cd u1 j103 n x62.2 (s6 ++ ([y53.name] : List Str)) (s7 + 1)
 else m_spec_l92Change_L11 N cd u1 j103 n x62.2 s6 (s7 + 1))
 else m_spec_l92Change_L11 N cd u1 j103 n s0_c_1 s6 (s7 + 1))
 else some (Ex.brk (s0_c_1, s6, s7)))
 else some (Ex.brk (s0_c_1, s6, s7)))

def m_spec_l92Change (N : Nat) (cd : List UInt8) (p : Nat) (u1 : Flow) : Option ((Change) × Nat) := (m_spec_l6Rd_pick N cd p 4).bind fun x9 => (m_spec_l91Step N cd x9.2).bind fun x12 => ((bif eqb (w64 (1 + x9.1)) 1 then (m_spec_l6Rd_of N cd x12.2 ([(⟨#[97, 97]⟩ : Str), (⟨#[103]⟩ : Str), (⟨#[104]⟩ : Str), (⟨#[99]⟩ : Str), (⟨#[101]⟩ : Str)] : List Str)).bind fun x19 => some (x19.2, x19.1)
 else (m_spec_l6Rd_pick N cd x12.2 6).bind fun x23 => (bif ltb 0 x23.1 then (m_spec_l6Rd_pick N cd x23.2 ((u1.steps.length : Nat) : Int)).bind fun x31 => (geti u1.steps x31.1).bind fun y32 => some (x31.2, y32.name)
 else some (x23.2, x12.1.name))) : Option (Nat × Str)).bind fun j103 => (m_spec_l92Change_L11 N cd u1 j103 N j103.1 ([] : List Str) 0).bind fun e11 => e11.go (fun r => r) fun b11 => (m_spec_l6Rd_pick N cd b11.1 30).bind fun x78 => (bif eqb x78.1 0 then (m_spec_l6Rd_pick N cd x78.2 2).bind fun x82 => (geti ([0, 5] : List Int) x82.1).bind fun y83 => some ((Change.mk y83 (Step.mk j103.2 b11.2.1 x12.1.undo)), x82.2)
 else some ((Change.mk (w64 (1 + x9.1)) (Step.mk j103.2 b11.2.1 x12.1.undo)), x78.2))

set_option maxHeartbeats 4000000 in
theorem c_spec_l92Change (N : Nat) (cd : List UInt8) (p : Nat) (u1 : Flow) (res : (Change) × Nat) (h : m_spec_l92Change N cd p u1 = some res) (w : World) {a_u1_steps : Option Addr} {c_u1_steps : Nat} {u0 ccd : Nat} {acd : Option Addr} (hr : (blkC u0 113 [.slice acd cd.length ccd, .int .i64 ((p : Nat) : Int)]).A w) (hcd : bytesL.rd w [u0] [.slice acd cd.length ccd] cd) (h_u1_steps : stepsL.rd w [u0] [.slice a_u1_steps u1.steps.length c_u1_steps] u1.steps) : Ret Try.prog 110 [.pointer (some ⟨u0, 0, none⟩), .agg #[.int .i64 u1.ver, .slice a_u1_steps u1.steps.length c_u1_steps]] w [u0] fun v w' => ∃ a1 c1 F1, v = .agg #[.int .i64 res.1.kind, .string res.1.step.name, .slice a1 res.1.step.after.length c1, .bool res.1.step.undo] ∧ NewM w w' [u0] [owC strsL F1 [.slice a1 res.1.step.after.length c1] res.1.step.after, blkC u0 113 [.slice acd cd.length ccd, .int .i64 ((res.2 : Nat) : Int)]] := by
  have mh_u1_steps := rd_max h_u1_steps
  have mhcd := rd_max hcd
  unfold m_spec_l92Change at h
  refine ret_enter Try.func110 rfl Try.ntmps110 rfl (hp_one hr (by simp [blkC])) ?_
  refine cw_seq ?_
  refine cw_region ?_
  refine wl_u rfl (ow_boxA rfl rfl rfl rfl (fun g3 => kk_wl ?_))
  refine wl_u rfl (ow_allocA Tb rfl rfl rfl rfl (fun g4 => kk_wl ?_))
  refine wl_nil ?_
  refine ex_seq ?_
  refine cw_seq ?_
  refine cw_region ?_
  refine wl_u rfl (ow_y (yh_move rfl rfl) rfl rfl (kk_wl ?_))
  obtain ⟨x9, hx9, h⟩ := bd h
  have mp9 := pick_lt hx9 (by decide)
  refine wl_u rfl (ow_cM0 2 rfl hb107 rfl rfl (fun w hw => c_spec_l6Rd_pick N _ _ _ _ hx9 w (hw.at (i := 2) rfl) (Lay.atR (i := 2) hcd rfl hw)) rfl rfl (kk_wl ?_))
  refine wl_u rfl (ow_y (yh_arW rfl rfl rfl rfl) rfl rfl (kk_wl ?_))
  refine wl_u rfl (ow_y (yh_move rfl rfl) rfl rfl (kk_wl ?_))
  obtain ⟨x12, hx12, h⟩ := bd h
  refine wl_u rfl (ow_cM1 0 rfl hb130 rfl rfl (fun w hw => c_spec_l91Step N _ _ _ hx12 w (hw.at (i := 0) rfl) (Lay.atR (i := 0) hcd rfl hw)) rfl rfl (fun a12 c12 F12 => kk_wl ?_))
  refine wl_u rfl (ow_y (yh_build [.int .i64 (w64 (1 + x9.1)), .string x12.1.name, .slice a12 x12.1.after.length c12, .bool x12.1.undo] rfl rfl (by kernel_rfl)) rfl rfl (kk_wl ?_))
  refine wl_u rfl (ow_allocA Tb rfl rfl rfl rfl (fun g5 => kk_wl ?_))
  refine wl_u rfl (ow_storeA Tb (k := 0) rfl rfl rfl rfl rfl rfl rfl rfl rfl (kk_wl ?_))
  refine wl_nil ?_
  refine ex_seq ?_
  obtain ⟨j103, he103, hk103⟩ := bd h
  clear h
  refine cw_cut (σ := Unit) (fun s => True) (fun s => [(0, .pointer (some ⟨u0, 0, none⟩)), (3, .pointer (some ⟨g3, 0, none⟩)), (4, .pointer (some ⟨g4, 0, none⟩)), (5, .pointer (some ⟨g5, 0, none⟩))]) (fun s => [blkC u0 113 [.slice acd cd.length ccd, .int .i64 ((j103.1 : Nat) : Int)], blkC g3 25 [.int .i64 u1.ver, .slice a_u1_steps u1.steps.length c_u1_steps], blkC g4 125 [.int .i64 0, .string (⟨#[]⟩ : Str), .slice none 0 0, .bool false], blkC g5 125 [.int .i64 (w64 (1 + x9.1)), .string j103.2, .slice a12 x12.1.after.length c12, .bool x12.1.undo], owC strsL F12 [.slice a12 x12.1.after.length c12] x12.1.after]) (fun s hI => ?_) (fun KL hn103 => ?_)
  · skip
    have h := hk103
    refine cw_seq ?_
    refine cw_region ?_
    refine wl_u rfl (ow_lit0 Tb rfl rfl rfl rfl rfl rfl (fun g37 => kk_chg (c' := owC strsL [g37] [.slice (some ⟨g37, 0, none⟩) 0 0] ([] : List Str)) 0 rfl (fun w hA => own_strsL ([] : List Str) hA rfl (by simp [maxLen])) rfl (kk_wl ?_)))
    refine wl_u rfl (ow_y (yh_assign rfl rfl) rfl rfl (kk_wl ?_))
    refine wl_nil ?_
    refine ex_seq ?_
    refine cw_seq ?_
    refine cw_seq ?_
    refine cw_region ?_
    refine wl_u rfl (ow_y (yh_assign rfl rfl) rfl rfl (kk_wl ?_))
    refine wl_nil ?_
    refine ex_seq ?_
    refine cw_block ?_
    obtain ⟨e11, he11, hk11⟩ := bd h
    clear h
    refine cw_loopG (σ := Nat × Nat × (List Str) × Nat × (Option Addr) × Nat × (List Nat)) (fun s => m_spec_l92Change_L11 N cd u1 j103 s.1 s.2.1 s.2.2.1 s.2.2.2.1 = some e11) (fun s => [(0, .pointer (some ⟨u0, 0, none⟩)), (3, .pointer (some ⟨g3, 0, none⟩)), (4, .pointer (some ⟨g4, 0, none⟩)), (5, .pointer (some ⟨g5, 0, none⟩)), (6, .slice s.2.2.2.2.1 s.2.2.1.length s.2.2.2.2.2.1), (7, .int .i64 ((s.2.2.2.1 : Nat) : Int))]) (fun s => [blkC u0 113 [.slice acd cd.length ccd, .int .i64 ((s.2.1 : Nat) : Int)], blkC g3 25 [.int .i64 u1.ver, .slice a_u1_steps u1.steps.length c_u1_steps], blkC g4 125 [.int .i64 0, .string (⟨#[]⟩ : Str), .slice none 0 0, .bool false], blkC g5 125 [.int .i64 (w64 (1 + x9.1)), .string j103.2, .slice a12 x12.1.after.length c12, .bool x12.1.undo], owC strsL F12 [.slice a12 x12.1.after.length c12] x12.1.after, owC strsL s.2.2.2.2.2.2 [.slice s.2.2.2.2.1 s.2.2.1.length s.2.2.2.2.2.1] s.2.2.1]) (fun s => s.1) (N, j103.1, ([] : List Str), 0, (some ⟨g37, 0, none⟩), 0, [g37]) [1, 2, 3, 4, 5, 0] he11 ⟨rfl, rfl, rfl, rfl, rfl, rfl, trivial⟩ rfl (fun KL s he11 hn11 => ?_)
    obtain ⟨n11, s0_c_1, s6, s7, as6, cs6, Fs6⟩ := s
    simp only at he11 hn11 ⊢
    rcases n11 with _ | n11
    · exact nosome he11
    have h := he11; rw [m_spec_l92Change_L11] at h
    refine cw_seq ?_
    refine cw_seq ?_
    refine cw_region ?_
    refine wl_u rfl (ow_y (yh_move rfl rfl) rfl rfl (kk_wl ?_))
    refine wl_u rfl (ow_y (yh_field Tb rfl rfl rfl) rfl rfl (kk_wl ?_))
    refine wl_u rfl (ow_y (yh_loadB Tb (k := 1) rfl rfl rfl rfl rfl) rfl rfl (kk_wl ?_))
    refine wl_u rfl (ow_y (yh_lenS Tb rfl rfl rfl rfl) rfl rfl (kk_wl ?_))
    refine wl_u rfl (ow_y (yh_cmpI rfl rfl rfl rfl) rfl rfl (kk_wl ?_))
    refine wl_u rfl (ow_y (yh_move rfl rfl) rfl rfl (kk_wl ?_))
    refine wl_s rfl rfl (fun c1 => ?_) (fun c1 => ?_)
    · skip
      replace h := bt c1 h
      have q1 := ltb_true.1 c1
      refine wl_g rfl rfl (ow_y (yh_move rfl rfl) rfl rfl (kk_wl ?_))
      refine wl_know (s6.length ≤ 9223372036854775807) (fun w hw => own_max 5 rfl hw) (fun mo45 => ?_)
      refine wl_g rfl rfl (ow_y (yh_lenS Tb rfl rfl rfl rfl) rfl rfl (kk_wl ?_))
      refine wl_g rfl rfl (ow_y (yh_cmpI rfl rfl rfl rfl) rfl rfl (kk_wl ?_))
      refine wl_u rfl (ow_y (yh_pickT rfl rfl rfl) rfl rfl (kk_wl ?_))
      refine wl_nil ?_
      refine ex_seq ?_
      refine cw_split rfl (fun c2 => ?_) (fun c2 => ?_)
      · skip
        replace h := bt c2 h
        have q2 := ltb_true.1 c2
        refine cw_skip ?_
        refine ex_seq ?_
        refine cw_seq ?_
        refine cw_block ?_
        refine cw_seq ?_
        refine cw_dr [0, 1, 2, 3, 4, 5, 6, 7, 8, 9, 10, 11, 13, 14] [] [blkC g3 25 [.int .i64 u1.ver, .slice a_u1_steps u1.steps.length c_u1_steps], blkC g4 125 [.int .i64 0, .string (⟨#[]⟩ : Str), .slice none 0 0, .bool false], blkC g5 125 [.int .i64 (w64 (1 + x9.1)), .string j103.2, .slice a12 x12.1.after.length c12, .bool x12.1.undo], owC strsL F12 [.slice a12 x12.1.after.length c12] x12.1.after, owC strsL Fs6 [.slice as6 s6.length cs6] s6] (by kernel_rfl) ?_
        refine wd_take (i := 0) [1, 2, 3, 4, 5] rfl rfl rfl rfl rfl (by kernel_rfl) (by kernel_rfl) (fun _ _ _ _ h => h) (yh_field Tb rfl rfl rfl) ?_
        refine wd_take (i := 1) [1, 2, 3, 4, 5] rfl rfl rfl rfl rfl (by kernel_rfl) (by kernel_rfl) (fun _ _ _ _ h => h) (yh_loadB Tb (k := 0) rfl rfl rfl rfl rfl) ?_
        refine wd_take (i := 2) [1, 2, 3, 4, 5] rfl rfl rfl rfl rfl (by kernel_rfl) (by kernel_rfl) (fun _ _ _ _ h => h) (yh_move rfl rfl) ?_
        obtain ⟨y53, hy53, h⟩ := bd h
        obtain ⟨b53, o53, ha53⟩ := sl_addr h_u1_steps hy53
        subst ha53
        obtain ⟨a53, e53, hc53, hf53⟩ := get_step h_u1_steps hy53
        have mx53 := rd_max hf53
        refine wd_take (i := 3) [1, 2, 3, 4, 5] rfl rfl rfl rfl rfl (by kernel_rfl) (by kernel_rfl) (fun _ _ _ _ h => h) (yh_idx Tb (k := s7) rfl rfl rfl rfl (get_lt hy53) rfl rfl) ?_
        refine wd_take (i := 4) [1, 2, 3, 4, 5] rfl rfl rfl rfl rfl (by kernel_rfl) (by kernel_rfl) (fun _ _ _ _ h => h) (yh_field Tb rfl rfl rfl) ?_
        refine wd_take (i := 5) [1, 2, 3, 4, 5] rfl rfl rfl rfl rfl (by kernel_rfl) (by kernel_rfl) (fun _ _ _ _ h => h) (yh_loadAF Tb (j := 0) rfl rfl rfl hc53 rfl) ?_
        refine wd_take (i := 6) [1, 2, 3, 4, 5] rfl rfl rfl rfl rfl (by kernel_rfl) (by kernel_rfl) (fun _ _ _ _ h => h) (yh_field Tb rfl rfl rfl) ?_
        refine wd_take (i := 7) [1, 2, 3, 4, 5] rfl rfl rfl rfl rfl (by kernel_rfl) (by kernel_rfl) (fun _ _ _ _ h => h) (yh_field Tb rfl rfl rfl) ?_
        refine wd_take (i := 8) [1, 2, 3, 4, 5] rfl rfl rfl rfl rfl (by kernel_rfl) (by kernel_rfl) (fun _ _ _ _ h => h) (yh_loadB Tb (k := 2) rfl rfl rfl rfl rfl) ?_
        refine wd_take (i := 9) [1, 2, 3, 4, 5] rfl rfl rfl rfl rfl (by kernel_rfl) (by kernel_rfl) (fun _ _ _ _ h => h) (yh_cmpS rfl rfl rfl rfl) ?_
        refine wd_take (i := 10) [1, 2, 3, 4, 5] rfl rfl rfl rfl rfl (by kernel_rfl) (by kernel_rfl) (fun _ _ _ _ h => h) (yh_move rfl rfl) ?_
        refine wd_split 11 rfl rfl rfl (fun c3 => ?_) (fun c3 => ?_)
        · skip
          replace h := bt c3 h
          refine wd_take (i := 11) [1, 2, 3, 4, 5] rfl rfl rfl rfl rfl (by kernel_rfl) (by kernel_rfl) (fun _ _ _ _ h => h) (yh_move rfl rfl) ?_
          obtain ⟨x62, hx62, h⟩ := bd h
          have mp62 := pick_lt hx62 (by decide)
          refine wd_one 12 rfl rfl (by kernel_rfl) (ow_cM0 0 rfl hb107 rfl rfl (fun w hw => c_spec_l6Rd_pick N _ _ _ _ hx62 w (hw.at (i := 0) rfl) (Lay.atR (i := 0) hcd rfl hw)) rfl rfl (kk_wd [1, 2, 3, 4, 5] (by kernel_rfl) ?_))
          refine wd_take (i := 13) [1, 2, 3, 4, 5] rfl rfl rfl rfl rfl (by kernel_rfl) (by kernel_rfl) (fun _ _ _ _ h => h) (yh_cmpI rfl rfl rfl rfl) ?_
          refine wd_take (i := 14) [1, 2, 3, 4, 5] rfl rfl rfl rfl rfl (by kernel_rfl) (by kernel_rfl) (fun _ _ _ _ h => h) (yh_pickT rfl rfl rfl) ?_
          refine wd_done (by kernel_rfl) ?_
          refine ex_seq ?_
          refine cw_split rfl (fun c4 => ?_) (fun c4 => ?_)
          · skip
            replace h := bt c4 h
            have q3 := eqb_true.1 c4
            refine cw_region ?_
            refine wl_u rfl (ow_y (yh_move rfl rfl) rfl rfl (kk_wl ?_))
            refine wl_u rfl (ow_y (yh_field Tb rfl rfl rfl) rfl rfl (kk_wl ?_))
            refine wl_u rfl (ow_y (yh_loadB Tb (k := 1) rfl rfl rfl rfl rfl) rfl rfl (kk_wl ?_))
            refine wl_u rfl (ow_y (yh_move rfl rfl) rfl rfl (kk_wl ?_))
            refine wl_u rfl (ow_y (yh_idx Tb (k := s7) rfl rfl rfl rfl (get_lt hy53) rfl rfl) rfl rfl (kk_wl ?_))
            refine wl_u rfl (ow_y (yh_field Tb rfl rfl rfl) rfl rfl (kk_wl ?_))
            refine wl_u rfl (ow_y (yh_loadAF Tb (j := 0) rfl rfl rfl hc53 rfl) rfl rfl (kk_wl ?_))
            refine wl_u rfl (ow_lit1 Tb rfl rfl rfl rfl rfl rfl rfl rfl rfl rfl (fun g72 => kk_chg (c' := owC strsL [g72] [.slice (some ⟨g72, 0, none⟩) 1 1] ([y53.name] : List Str)) 0 rfl (fun w hA => own_strsL ([y53.name] : List Str) hA rfl (by simp [maxLen])) rfl (kk_wl ?_)))
            obtain ⟨hll73, h⟩ := bd_appd h
            refine wl_u rfl (ow_appP Tb (i := 6) rfl rfl rfl rfl rfl (fun w hw => rdo (A := strsL) 0 rfl hw) rfl rfl rfl rfl hll73 (by decide) rfl rfl (fun a73 c73 F73 => kk_wl ?_))
            refine wl_u rfl (ow_y (yh_assign rfl rfl) rfl rfl (kk_wl ?_))
            refine wl_nil ?_
            refine ex_block_normal ?_
            refine ex_seq ?_
            refine cw_region ?_
            refine wl_u rfl (ow_y (yh_move rfl rfl) rfl rfl (kk_wl ?_))
            refine wl_u rfl (ow_y (yh_arI rfl rfl rfl rfl (by omega)) rfl rfl (kk_wl ?_))
            refine wl_u rfl (ow_y (yh_assign rfl rfl) rfl rfl (kk_wl ?_))
            refine wl_nil ?_
            exact ex_next [2, 3, 4, 5, 6, 0] (hn11 (n11, x62.2, (s6 ++ ([y53.name] : List Str)), s7 + 1, a73, c73, F73) (Nat.lt_succ_self _) h) ⟨rfl, rfl, rfl, rfl, rfl, rfl, trivial⟩ (by kernel_rfl)
          · skip
            replace h := bf c4 h
            have q4 := eqb_false.1 c4
            refine cw_skip ?_
            refine ex_block_normal ?_
            refine ex_seq ?_
            refine cw_region ?_
            refine wl_u rfl (ow_y (yh_move rfl rfl) rfl rfl (kk_wl ?_))
            refine wl_u rfl (ow_y (yh_arI rfl rfl rfl rfl (by omega)) rfl rfl (kk_wl ?_))
            refine wl_u rfl (ow_y (yh_assign rfl rfl) rfl rfl (kk_wl ?_))
            refine wl_nil ?_
            exact ex_next [0, 1, 2, 3, 4, 5] (hn11 (n11, x62.2, s6, s7 + 1, as6, cs6, Fs6) (Nat.lt_succ_self _) h) ⟨rfl, rfl, rfl, rfl, rfl, rfl, trivial⟩ (by kernel_rfl)
        · skip
          replace h := bf c3 h
          refine wd_skip (i := 11) [1, 2, 3, 4, 5] rfl rfl rfl rfl (by kernel_rfl) (by kernel_rfl) (fun _ _ _ h => h) ?_
          refine wd_offD 12 rfl rfl rfl rfl (by kernel_rfl) [1, 2, 3, 4, 5] (fun _ => rfl) ?_
          refine wd_skip (i := 13) [1, 2, 3, 4, 5] rfl rfl rfl rfl (by kernel_rfl) (by kernel_rfl) (fun _ _ _ h => h) ?_
          refine wd_take (i := 14) [1, 2, 3, 4, 5] rfl rfl rfl rfl rfl (by kernel_rfl) (by kernel_rfl) (fun _ _ _ _ h => h) (yh_pickF rfl rfl rfl) ?_
          refine wd_done (by kernel_rfl) ?_
          refine ex_seq ?_
          refine cw_false rfl ?_
          refine cw_skip ?_
          refine ex_block_normal ?_
          refine ex_seq ?_
          refine cw_region ?_
          refine wl_u rfl (ow_y (yh_move rfl rfl) rfl rfl (kk_wl ?_))
          refine wl_u rfl (ow_y (yh_arI rfl rfl rfl rfl (by omega)) rfl rfl (kk_wl ?_))
          refine wl_u rfl (ow_y (yh_assign rfl rfl) rfl rfl (kk_wl ?_))
          refine wl_nil ?_
          exact ex_next [0, 1, 2, 3, 4, 5] (hn11 (n11, s0_c_1, s6, s7 + 1, as6, cs6, Fs6) (Nat.lt_succ_self _) h) ⟨rfl, rfl, rfl, rfl, rfl, rfl, trivial⟩ (by kernel_rfl)
      · skip
        replace h := bf c2 h
        have q5 := ltb_false.1 c2
        refine cw_exit ?_
        refine ex_then_exit ?_
        refine ex_then_exit ?_
        obtain rfl := Option.some.inj h
        have h := go_brk hk11
        refine ex_block_exit ?_
        refine ex_seq ?_
        refine cw_seq ?_
        refine cw_region ?_
        refine wl_u rfl (ow_y (yh_move rfl rfl) rfl rfl (kk_wl ?_))
        refine wl_u rfl (ow_y (yh_field Tb rfl rfl rfl) rfl rfl (kk_wl ?_))
        refine wl_u rfl (ow_y (yh_field Tb rfl rfl rfl) rfl rfl (kk_wl ?_))
        refine wl_u rfl (ow_store1 Tb (k := 3) rfl rfl rfl rfl rfl rfl rfl rfl rfl (kk_wl ?_))
        refine wl_nil ?_
        refine ex_seq ?_
        refine cw_seq ?_
        refine cw_seq ?_
        refine cw_region ?_
        refine wl_u rfl (ow_y (yh_move rfl rfl) rfl rfl (kk_wl ?_))
        obtain ⟨x78, hx78, h⟩ := bd h
        have mp78 := pick_lt hx78 (by decide)
        refine wl_u rfl (ow_cM0 1 rfl hb107 rfl rfl (fun w hw => c_spec_l6Rd_pick N _ _ _ _ hx78 w (hw.at (i := 1) rfl) (Lay.atR (i := 1) hcd rfl hw)) rfl rfl (kk_wl ?_))
        refine wl_u rfl (ow_y (yh_cmpI rfl rfl rfl rfl) rfl rfl (kk_wl ?_))
        refine wl_nil ?_
        refine ex_seq ?_
        refine cw_split rfl (fun c5 => ?_) (fun c5 => ?_)
        · skip
          replace h := bt c5 h
          have q6 := eqb_true.1 c5
          refine cw_region ?_
          refine wl_u rfl (ow_lit1 Tb rfl rfl rfl rfl rfl rfl rfl rfl rfl rfl (fun g80 => kk_chg (c' := owC intsL [g80] [.slice (some ⟨g80, 0, none⟩) 2 2] ([0, 5] : List Int)) 0 rfl (fun w hA => own_intsL ([0, 5] : List Int) hA rfl (by simp [maxLen])) rfl (kk_wl ?_)))
          refine wl_u rfl (ow_y (yh_move rfl rfl) rfl rfl (kk_wl ?_))
          obtain ⟨x82, hx82, h⟩ := bd h
          have mp82 := pick_lt hx82 (by decide)
          refine wl_u rfl (ow_cM0 1 rfl hb107 rfl rfl (fun w hw => c_spec_l6Rd_pick N _ _ _ _ hx82 w (hw.at (i := 1) rfl) (Lay.atR (i := 1) hcd rfl hw)) rfl rfl (kk_wl ?_))
          obtain ⟨y83, zy83, h⟩ := bd h
          obtain ⟨iy83, hy83⟩ := geti_some zy83
          refine wl_u rfl (ow_y (yh_idx Tb (k := x82.1.toNat) rfl rfl rfl iy83 (get_lt hy83) rfl rfl) rfl rfl (kk_wl ?_))
          refine wl_u rfl (ow_y (yh_loadO0 Tb 1 rfl rfl rfl rfl rfl hy83 rfl) rfl rfl (kk_wl ?_))
          refine wl_u rfl (ow_y (yh_field Tb rfl rfl rfl) rfl rfl (kk_wl ?_))
          refine wl_u rfl (ow_store1 Tb (k := 2) rfl rfl rfl rfl rfl rfl rfl rfl rfl (kk_wl ?_))
          refine wl_nil ?_
          refine ex_seq ?_
          refine cw_seq ?_
          refine cw_region ?_
          refine wl_u rfl (ow_y (yh_loadBA Tb (k := 0) rfl rfl rfl rfl rfl rfl) rfl rfl (kk_wl ?_))
          refine wl_u rfl (ow_storeA Tb (k := 4) rfl rfl rfl rfl rfl rfl rfl rfl rfl (kk_wl ?_))
          refine wl_nil ?_
          refine ex_seq ?_
          refine cw_ret ?_
          obtain rfl := Option.some.inj h
          exact ex_r1 Tb rfl (.cellA 0 rfl rfl rfl rfl rfl) (fun wq hq => ⟨_, rfl, hq.ext, ⟨as6, cs6, Fs6, rfl, NewM.sel [6, 2] hq rfl⟩⟩)
        · skip
          replace h := bf c5 h
          have q7 := eqb_false.1 c5
          refine cw_skip ?_
          refine ex_seq ?_
          refine cw_seq ?_
          refine cw_region ?_
          refine wl_u rfl (ow_y (yh_loadBA Tb (k := 1) rfl rfl rfl rfl rfl rfl) rfl rfl (kk_wl ?_))
          refine wl_u rfl (ow_storeA Tb (k := 3) rfl rfl rfl rfl rfl rfl rfl rfl rfl (kk_wl ?_))
          refine wl_nil ?_
          refine ex_seq ?_
          refine cw_ret ?_
          obtain rfl := Option.some.inj h
          exact ex_r1 Tb rfl (.cellA 0 rfl rfl rfl rfl rfl) (fun wq hq => ⟨_, rfl, hq.ext, ⟨as6, cs6, Fs6, rfl, NewM.sel [5, 1] hq rfl⟩⟩)
    · skip
      replace h := bf c1 h
      have q8 := ltb_false.1 c1
      refine wl_n rfl rfl rfl rfl ?_
      refine wl_n rfl rfl rfl rfl ?_
      refine wl_n rfl rfl rfl rfl ?_
      refine wl_u rfl (ow_y (yh_pickF rfl rfl rfl) rfl rfl (kk_wl ?_))
      refine wl_nil ?_
      refine ex_seq ?_
      refine cw_false rfl ?_
      refine cw_exit ?_
      refine ex_then_exit ?_
      refine ex_then_exit ?_
      obtain rfl := Option.some.inj h
      have h := go_brk hk11
      refine ex_block_exit ?_
      refine ex_seq ?_
      refine cw_seq ?_
      refine cw_region ?_
      refine wl_u rfl (ow_y (yh_move rfl rfl) rfl rfl (kk_wl ?_))
      refine wl_u rfl (ow_y (yh_field Tb rfl rfl rfl) rfl rfl (kk_wl ?_))
      refine wl_u rfl (ow_y (yh_field Tb rfl rfl rfl) rfl rfl (kk_wl ?_))
      refine wl_u rfl (ow_store1 Tb (k := 3) rfl rfl rfl rfl rfl rfl rfl rfl rfl (kk_wl ?_))
      refine wl_nil ?_
      refine ex_seq ?_
      refine cw_seq ?_
      refine cw_seq ?_
      refine cw_region ?_
      refine wl_u rfl (ow_y (yh_move rfl rfl) rfl rfl (kk_wl ?_))
      obtain ⟨x78, hx78, h⟩ := bd h
      have mp78 := pick_lt hx78 (by decide)
      refine wl_u rfl (ow_cM0 1 rfl hb107 rfl rfl (fun w hw => c_spec_l6Rd_pick N _ _ _ _ hx78 w (hw.at (i := 1) rfl) (Lay.atR (i := 1) hcd rfl hw)) rfl rfl (kk_wl ?_))
      refine wl_u rfl (ow_y (yh_cmpI rfl rfl rfl rfl) rfl rfl (kk_wl ?_))
      refine wl_nil ?_
      refine ex_seq ?_
      refine cw_split rfl (fun c6 => ?_) (fun c6 => ?_)
      · skip
        replace h := bt c6 h
        have q9 := eqb_true.1 c6
        refine cw_region ?_
        refine wl_u rfl (ow_lit1 Tb rfl rfl rfl rfl rfl rfl rfl rfl rfl rfl (fun g80 => kk_chg (c' := owC intsL [g80] [.slice (some ⟨g80, 0, none⟩) 2 2] ([0, 5] : List Int)) 0 rfl (fun w hA => own_intsL ([0, 5] : List Int) hA rfl (by simp [maxLen])) rfl (kk_wl ?_)))
        refine wl_u rfl (ow_y (yh_move rfl rfl) rfl rfl (kk_wl ?_))
        obtain ⟨x82, hx82, h⟩ := bd h
        have mp82 := pick_lt hx82 (by decide)
        refine wl_u rfl (ow_cM0 1 rfl hb107 rfl rfl (fun w hw => c_spec_l6Rd_pick N _ _ _ _ hx82 w (hw.at (i := 1) rfl) (Lay.atR (i := 1) hcd rfl hw)) rfl rfl (kk_wl ?_))
        obtain ⟨y83, zy83, h⟩ := bd h
        obtain ⟨iy83, hy83⟩ := geti_some zy83
        refine wl_u rfl (ow_y (yh_idx Tb (k := x82.1.toNat) rfl rfl rfl iy83 (get_lt hy83) rfl rfl) rfl rfl (kk_wl ?_))
        refine wl_u rfl (ow_y (yh_loadO0 Tb 1 rfl rfl rfl rfl rfl hy83 rfl) rfl rfl (kk_wl ?_))
        refine wl_u rfl (ow_y (yh_field Tb rfl rfl rfl) rfl rfl (kk_wl ?_))
        refine wl_u rfl (ow_store1 Tb (k := 2) rfl rfl rfl rfl rfl rfl rfl rfl rfl (kk_wl ?_))
        refine wl_nil ?_
        refine ex_seq ?_
        refine cw_seq ?_
        refine cw_region ?_
        refine wl_u rfl (ow_y (yh_loadBA Tb (k := 0) rfl rfl rfl rfl rfl rfl) rfl rfl (kk_wl ?_))
        refine wl_u rfl (ow_storeA Tb (k := 4) rfl rfl rfl rfl rfl rfl rfl rfl rfl (kk_wl ?_))
        refine wl_nil ?_
        refine ex_seq ?_
        refine cw_ret ?_
        obtain rfl := Option.some.inj h
        exact ex_r1 Tb rfl (.cellA 0 rfl rfl rfl rfl rfl) (fun wq hq => ⟨_, rfl, hq.ext, ⟨as6, cs6, Fs6, rfl, NewM.sel [6, 2] hq rfl⟩⟩)
      · skip
        replace h := bf c6 h
        have q10 := eqb_false.1 c6
        refine cw_skip ?_
        refine ex_seq ?_
        refine cw_seq ?_
        refine cw_region ?_
        refine wl_u rfl (ow_y (yh_loadBA Tb (k := 1) rfl rfl rfl rfl rfl rfl) rfl rfl (kk_wl ?_))
        refine wl_u rfl (ow_storeA Tb (k := 3) rfl rfl rfl rfl rfl rfl rfl rfl rfl (kk_wl ?_))
        refine wl_nil ?_
        refine ex_seq ?_
        refine cw_ret ?_
        obtain rfl := Option.some.inj h
        exact ex_r1 Tb rfl (.cellA 0 rfl rfl rfl rfl rfl) (fun wq hq => ⟨_, rfl, hq.ext, ⟨as6, cs6, Fs6, rfl, NewM.sel [5, 1] hq rfl⟩⟩)
  · skip
    have h := he103
    refine cw_seq ?_
    refine cw_region ?_
    refine wl_u rfl (ow_y (yh_field Tb rfl rfl rfl) rfl rfl (kk_wl ?_))
    refine wl_u rfl (ow_y (yh_loadB Tb (k := 0) rfl rfl rfl rfl rfl) rfl rfl (kk_wl ?_))
    refine wl_u rfl (ow_y (yh_cmpI rfl rfl rfl rfl) rfl rfl (kk_wl ?_))
    refine wl_nil ?_
    refine ex_seq ?_
    refine cw_split rfl (fun c7 => ?_) (fun c7 => ?_)
    · skip
      replace h := bt c7 h
      have q11 := eqb_true.1 c7
      refine cw_region ?_
      refine wl_u rfl (ow_y (yh_move rfl rfl) rfl rfl (kk_wl ?_))
      refine wl_u rfl (ow_lit1 Tb rfl rfl rfl rfl rfl rfl rfl rfl rfl rfl (fun g18 => kk_chg (c' := owC strsL [g18] [.slice (some ⟨g18, 0, none⟩) 5 5] ([(⟨#[97, 97]⟩ : Str), (⟨#[103]⟩ : Str), (⟨#[104]⟩ : Str), (⟨#[99]⟩ : Str), (⟨#[101]⟩ : Str)] : List Str)) 0 rfl (fun w hA => own_strsL ([(⟨#[97, 97]⟩ : Str), (⟨#[103]⟩ : Str), (⟨#[104]⟩ : Str), (⟨#[99]⟩ : Str), (⟨#[101]⟩ : Str)] : List Str) hA rfl (by simp [maxLen])) rfl (kk_wl ?_)))
      obtain ⟨x19, hx19, h⟩ := bd h
      refine wl_u rfl (ow_cM0 3 rfl hb131 rfl rfl (fun w hw => c_spec_l6Rd_of N _ _ _ _ hx19 w (hw.at (i := 3) rfl) (Lay.atR (i := 3) hcd rfl hw) (rdoR (A := strsL) 0 3 rfl rfl rfl hw)) rfl rfl (kk_wl ?_))
      refine wl_u rfl (ow_y (yh_field Tb rfl rfl rfl) rfl rfl (kk_wl ?_))
      refine wl_u rfl (ow_y (yh_field Tb rfl rfl rfl) rfl rfl (kk_wl ?_))
      refine wl_u rfl (ow_store1 Tb (k := 2) rfl rfl rfl rfl rfl rfl rfl rfl rfl (kk_wl ?_))
      refine wl_nil ?_
      obtain rfl := Option.some.inj h
      exact ex_next [1, 5, 4, 0, 3] (hn103 () trivial) ⟨rfl, rfl, rfl, rfl, trivial⟩ (by kernel_rfl)
    · skip
      replace h := bf c7 h
      have q12 := eqb_false.1 c7
      refine cw_seq ?_
      refine cw_region ?_
      refine wl_u rfl (ow_y (yh_move rfl rfl) rfl rfl (kk_wl ?_))
      obtain ⟨x23, hx23, h⟩ := bd h
      have mp23 := pick_lt hx23 (by decide)
      refine wl_u rfl (ow_cM0 2 rfl hb107 rfl rfl (fun w hw => c_spec_l6Rd_pick N _ _ _ _ hx23 w (hw.at (i := 2) rfl) (Lay.atR (i := 2) hcd rfl hw)) rfl rfl (kk_wl ?_))
      refine wl_u rfl (ow_y (yh_cmpI rfl rfl rfl rfl) rfl rfl (kk_wl ?_))
      refine wl_nil ?_
      refine ex_seq ?_
      refine cw_split rfl (fun c8 => ?_) (fun c8 => ?_)
      · skip
        replace h := bt c8 h
        have q13 := ltb_true.1 c8
        refine cw_dr [0, 1, 2, 3, 4, 5, 7, 8, 9, 10, 11] [12] [blkC g5 125 [.int .i64 (w64 (1 + x9.1)), .string x12.1.name, .slice a12 x12.1.after.length c12, .bool x12.1.undo], owC strsL F12 [.slice a12 x12.1.after.length c12] x12.1.after, blkC g4 125 [.int .i64 0, .string (⟨#[]⟩ : Str), .slice none 0 0, .bool false], blkC g3 25 [.int .i64 u1.ver, .slice a_u1_steps u1.steps.length c_u1_steps]] (by kernel_rfl) ?_
        refine wd_take (i := 0) [1, 2, 3, 4] rfl rfl rfl rfl rfl (by kernel_rfl) (by kernel_rfl) (fun _ _ _ _ h => h) (yh_field Tb rfl rfl rfl) ?_
        refine wd_take (i := 1) [1, 2, 3, 4] rfl rfl rfl rfl rfl (by kernel_rfl) (by kernel_rfl) (fun _ _ _ _ h => h) (yh_loadB Tb (k := 3) rfl rfl rfl rfl rfl) ?_
        refine wd_take (i := 2) [1, 2, 3, 4] rfl rfl rfl rfl rfl (by kernel_rfl) (by kernel_rfl) (fun _ _ _ _ h => h) (yh_move rfl rfl) ?_
        refine wd_take (i := 3) [1, 2, 3, 4] rfl rfl rfl rfl rfl (by kernel_rfl) (by kernel_rfl) (fun _ _ _ _ h => h) (yh_field Tb rfl rfl rfl) ?_
        refine wd_take (i := 4) [1, 2, 3, 4] rfl rfl rfl rfl rfl (by kernel_rfl) (by kernel_rfl) (fun _ _ _ _ h => h) (yh_loadB Tb (k := 3) rfl rfl rfl rfl rfl) ?_
        refine wd_take (i := 5) [1, 2, 3, 4] rfl rfl rfl rfl rfl (by kernel_rfl) (by kernel_rfl) (fun _ _ _ _ h => h) (yh_lenS Tb rfl rfl rfl rfl) ?_
        obtain ⟨x31, hx31, h⟩ := bd h
        refine wd_one 6 rfl rfl (by kernel_rfl) (ow_cM0 0 rfl hb107 rfl rfl (fun w hw => c_spec_l6Rd_pick N _ _ _ _ hx31 w (hw.at (i := 0) rfl) (Lay.atR (i := 0) hcd rfl hw)) rfl rfl (kk_wd [1, 2, 3, 4] (by kernel_rfl) ?_))
        obtain ⟨y32, zy32, h⟩ := bd h
        obtain ⟨iy32, hy32⟩ := geti_some zy32
        obtain ⟨b32, o32, ha32⟩ := sl_addr h_u1_steps hy32
        subst ha32
        obtain ⟨a32, e32, hc32, hf32⟩ := get_step h_u1_steps hy32
        have mx32 := rd_max hf32
        refine wd_take (i := 7) [1, 2, 3, 4] rfl rfl rfl rfl rfl (by kernel_rfl) (by kernel_rfl) (fun _ _ _ _ h => h) (yh_idx Tb (k := x31.1.toNat) rfl rfl rfl iy32 (get_lt hy32) rfl rfl) ?_
        refine wd_take (i := 8) [1, 2, 3, 4] rfl rfl rfl rfl rfl (by kernel_rfl) (by kernel_rfl) (fun _ _ _ _ h => h) (yh_field Tb rfl rfl rfl) ?_
        refine wd_take (i := 9) [1, 2, 3, 4] rfl rfl rfl rfl rfl (by kernel_rfl) (by kernel_rfl) (fun _ _ _ _ h => h) (yh_loadAF Tb (j := 0) rfl rfl rfl hc32 rfl) ?_
        refine wd_take (i := 10) [1, 2, 3, 4] rfl rfl rfl rfl rfl (by kernel_rfl) (by kernel_rfl) (fun _ _ _ _ h => h) (yh_field Tb rfl rfl rfl) ?_
        refine wd_take (i := 11) [1, 2, 3, 4] rfl rfl rfl rfl rfl (by kernel_rfl) (by kernel_rfl) (fun _ _ _ _ h => h) (yh_field Tb rfl rfl rfl) ?_
        refine wd_one 12 rfl rfl (by kernel_rfl) (ow_store1 Tb (k := 1) rfl rfl rfl rfl rfl rfl rfl rfl rfl (kk_wdT rfl ?_))
        refine wd_done (by kernel_rfl) ?_
        obtain rfl := Option.some.inj h
        exact ex_next [1, 4, 3, 0, 2] (hn103 () trivial) ⟨rfl, rfl, rfl, rfl, trivial⟩ (by kernel_rfl)
      · skip
        replace h := bf c8 h
        have q14 := ltb_false.1 c8
        refine cw_skip ?_
        obtain rfl := Option.some.inj h
        exact ex_next [0, 4, 3, 1, 2] (hn103 () trivial) ⟨rfl, rfl, rfl, rfl, trivial⟩ (by kernel_rfl)

def m_spec_l12With_L11 (N : Nat) (steps : List Step) (s_ : Step) : Nat → (List Step) → Bool → Nat → Option (Ex (List Step × Bool × Nat) (List Step))
  | 0, _, _, _ => none
  | n + 1, s5, s6, s7 => (bif ltb ((s7 : Nat) : Int) ((steps.length : Nat) : Int) then ((bif !s6 then (steps[s7]?).bind fun y20 => (bif !(slt y20.name s_.name) then (m_spec_l2Step N s_).bind fun x29 => (appd s5 [x29]).bind fun l31 => some ((s5 ++ [x29]), true)
 else some (s5, s6))
 else some (s5, s6)) : Option ((List Step) × Bool)).bind fun j115 => (steps[s7]?).bind fun y34 => (bif !(seq y34.name s_.name) then (m_spec_l2Step N y34).bind fun x45 => (appd j115.1 [x45]).bind fun l47 => m_spec_l12With_L11 N steps s_ n (j115.1 ++ [x45]) j115.2 (s7 + 1)
 else m_spec_l12With_L11 N steps s_ n j115.1 j115.2 (s7 + 1))
 else some (Ex.brk (s5, s6, s7)))

def m_spec_l12With (N : Nat) (steps : List Step) (s_ : Step) : Option (List Step) := (m_spec_l12With_L11 N steps s_ N ([] : List Step) false 0).bind fun e11 => e11.go (fun r => r) fun b11 => (bif !b11.2.1 then (m_spec_l2Step N s_).bind fun x52 => (appd b11.1 [x52]).bind fun l54 => some (b11.1 ++ [x52])
 else some b11.1)

set_option maxHeartbeats 4000000 in
theorem c_spec_l12With (N : Nat) (steps : List Step) (s_ : Step) (res : List Step) (h : m_spec_l12With N steps s_ = some res) (w : World) {a_s__after a_steps : Option Addr} {c_s__after c_steps : Nat} (h_steps : stepsL.rd w [] [.slice a_steps steps.length c_steps] steps) (h_s__after : strsL.rd w [] [.slice a_s__after s_.after.length c_s__after] s_.after) : Ret Try.prog 136 [.slice a_steps steps.length c_steps, .agg #[.string s_.name, .slice a_s__after s_.after.length c_s__after, .bool s_.undo]] w [] fun v w' => ∃ a1 c1 F1, v = .slice a1 res.length c1 ∧ NewC w w' [owC stepsL F1 [.slice a1 res.length c1] res] := by
  have mh_steps := rd_max h_steps
  have mh_s__after := rd_max h_s__after
  unfold m_spec_l12With at h
  refine ret_enter Try.func136 rfl Try.ntmps136 rfl (Hp.refl w _) ?_
  refine cw_seq ?_
  refine cw_region ?_
  refine wl_u rfl (ow_boxA rfl rfl rfl rfl (fun g3 => kk_wl ?_))
  refine wl_u rfl (ow_y (yh_assign rfl rfl) rfl rfl (kk_wl ?_))
  refine wl_nil ?_
  refine ex_seq ?_
  refine cw_seq ?_
  refine cw_region ?_
  refine wl_u rfl (ow_lit0 Tb rfl rfl rfl rfl rfl rfl (fun g8 => kk_chg (c' := owC stepsL [g8] [.slice (some ⟨g8, 0, none⟩) 0 0] ([] : List Step)) 0 rfl (fun w hA => own_stepsL ([] : List Step) hA rfl (by simp [maxLen])) rfl (kk_wl ?_)))
  refine wl_u rfl (ow_y (yh_assign rfl rfl) rfl rfl (kk_wl ?_))
  refine wl_nil ?_
  refine ex_seq ?_
  refine cw_seq ?_
  refine cw_region ?_
  refine wl_u rfl (ow_y (yh_assign rfl rfl) rfl rfl (kk_wl ?_))
  refine wl_nil ?_
  refine ex_seq ?_
  refine cw_seq ?_
  refine cw_seq ?_
  refine cw_region ?_
  refine wl_u rfl (ow_y (yh_assign rfl rfl) rfl rfl (kk_wl ?_))
  refine wl_nil ?_
  refine ex_seq ?_
  refine cw_block ?_
  obtain ⟨e11, he11, hk11⟩ := bd h
  clear h
  refine cw_loopG (σ := Nat × (List Step) × Bool × Nat × (Option Addr) × Nat × (List Nat)) (fun s => m_spec_l12With_L11 N steps s_ s.1 s.2.1 s.2.2.1 s.2.2.2.1 = some e11) (fun s => [(0, .slice a_steps steps.length c_steps), (3, .pointer (some ⟨g3, 0, none⟩)), (5, .slice s.2.2.2.2.1 s.2.1.length s.2.2.2.2.2.1), (6, .bool s.2.2.1), (7, .int .i64 ((s.2.2.2.1 : Nat) : Int))]) (fun s => [blkC g3 100 [.string s_.name, .slice a_s__after s_.after.length c_s__after, .bool s_.undo], owC stepsL s.2.2.2.2.2.2 [.slice s.2.2.2.2.1 s.2.1.length s.2.2.2.2.2.1] s.2.1]) (fun s => s.1) (N, ([] : List Step), false, 0, (some ⟨g8, 0, none⟩), 0, [g8]) [1, 0] he11 ⟨rfl, rfl, rfl, rfl, rfl, trivial⟩ rfl (fun KL s he11 hn11 => ?_)
  obtain ⟨n11, s5, s6, s7, as5, cs5, Fs5⟩ := s
  simp only at he11 hn11 ⊢
  rcases n11 with _ | n11
  · exact nosome he11
  have h := he11; rw [m_spec_l12With_L11] at h
  refine cw_seq ?_
  refine cw_seq ?_
  refine cw_region ?_
  refine wl_u rfl (ow_y (yh_move rfl rfl) rfl rfl (kk_wl ?_))
  refine wl_u rfl (ow_y (yh_move rfl rfl) rfl rfl (kk_wl ?_))
  refine wl_u rfl (ow_y (yh_lenS Tb rfl rfl rfl rfl) rfl rfl (kk_wl ?_))
  refine wl_u rfl (ow_y (yh_cmpI rfl rfl rfl rfl) rfl rfl (kk_wl ?_))
  refine wl_nil ?_
  refine ex_seq ?_
  refine cw_split rfl (fun c1 => ?_) (fun c1 => ?_)
  · skip
    replace h := bt c1 h
    have q1 := ltb_true.1 c1
    refine cw_skip ?_
    refine ex_seq ?_
    refine cw_seq ?_
    refine cw_block ?_
    obtain ⟨j115, he115, hk115⟩ := bd h
    clear h
    refine cw_cut (σ := (Option Addr) × Nat × (List Nat)) (fun s => True) (fun s => [(0, .slice a_steps steps.length c_steps), (3, .pointer (some ⟨g3, 0, none⟩)), (5, .slice s.1 j115.1.length s.2.1), (6, .bool j115.2), (7, .int .i64 ((s7 : Nat) : Int))]) (fun s => [blkC g3 100 [.string s_.name, .slice a_s__after s_.after.length c_s__after, .bool s_.undo], owC stepsL s.2.2 [.slice s.1 j115.1.length s.2.1] j115.1]) (fun s hI => ?_) (fun KL hn115 => ?_)
    · skip
      obtain ⟨ak115_5, ck115_5, Fk115_5⟩ := s
      simp only at ⊢
      have h := hk115
      refine cw_seq ?_
      refine cw_dr [0, 1, 2, 3, 4, 5, 6, 7] [] [blkC g3 100 [.string s_.name, .slice a_s__after s_.after.length c_s__after, .bool s_.undo], owC stepsL Fk115_5 [.slice ak115_5 j115.1.length ck115_5] j115.1] (by kernel_rfl) ?_
      refine wd_take (i := 0) [0, 1] rfl rfl rfl rfl rfl (by kernel_rfl) (by kernel_rfl) (fun _ _ _ _ h => h) (yh_move rfl rfl) ?_
      refine wd_take (i := 1) [0, 1] rfl rfl rfl rfl rfl (by kernel_rfl) (by kernel_rfl) (fun _ _ _ _ h => h) (yh_move rfl rfl) ?_
      obtain ⟨y34, hy34, h⟩ := bd h
      obtain ⟨b34, o34, ha34⟩ := sl_addr h_steps hy34
      subst ha34
      obtain ⟨a34, e34, hc34, hf34⟩ := get_step h_steps hy34
      have mx34 := rd_max hf34
      refine wd_take (i := 2) [0, 1] rfl rfl rfl rfl rfl (by kernel_rfl) (by kernel_rfl) (fun _ _ _ _ h => h) (yh_idx Tb (k := s7) rfl rfl rfl rfl (get_lt hy34) rfl rfl) ?_
      refine wd_take (i := 3) [0, 1] rfl rfl rfl rfl rfl (by kernel_rfl) (by kernel_rfl) (fun _ _ _ _ h => h) (yh_field Tb rfl rfl rfl) ?_
      refine wd_take (i := 4) [0, 1] rfl rfl rfl rfl rfl (by kernel_rfl) (by kernel_rfl) (fun _ _ _ _ h => h) (yh_loadAF Tb (j := 0) rfl rfl rfl hc34 rfl) ?_
      refine wd_take (i := 5) [0, 1] rfl rfl rfl rfl rfl (by kernel_rfl) (by kernel_rfl) (fun _ _ _ _ h => h) (yh_field Tb rfl rfl rfl) ?_
      refine wd_take (i := 6) [0, 1] rfl rfl rfl rfl rfl (by kernel_rfl) (by kernel_rfl) (fun _ _ _ _ h => h) (yh_loadB Tb (k := 0) rfl rfl rfl rfl rfl) ?_
      refine wd_take (i := 7) [0, 1] rfl rfl rfl rfl rfl (by kernel_rfl) (by kernel_rfl) (fun _ _ _ _ h => h) (yh_cmpS rfl rfl rfl rfl) ?_
      refine wd_done (by kernel_rfl) ?_
      refine ex_seq ?_
      refine cw_split rfl (fun c2 => ?_) (fun c2 => ?_)
      · skip
        replace h := bt c2 h
        refine cw_region ?_
        refine wl_u rfl (ow_y (yh_move rfl rfl) rfl rfl (kk_wl ?_))
        refine wl_u rfl (ow_y (yh_move rfl rfl) rfl rfl (kk_wl ?_))
        refine wl_u rfl (ow_y (yh_move rfl rfl) rfl rfl (kk_wl ?_))
        refine wl_u rfl (ow_y (yh_idx Tb (k := s7) rfl rfl rfl rfl (get_lt hy34) rfl rfl) rfl rfl (kk_wl ?_))
        refine wl_u rfl (ow_y (yh_loadAN Tb rfl rfl rfl rfl hc34 rfl) rfl rfl (kk_wl ?_))
        obtain ⟨x45, hx45, h⟩ := bd h
        refine wl_u rfl (ow_cN1 rfl hb128 rfl (fun w hw => c_spec_l2Step N _ _ hx45 w (Lay.at_ hf34 hw)) rfl rfl (fun a45 c45 F45 => kk_wl ?_))
        refine wl_u rfl (ow_litA Tb rfl rfl rfl rfl rfl rfl (by decide) rfl rfl (fun g46 => kk_wl ?_))
        obtain ⟨hll47, h⟩ := bd_appd h
        refine wl_u rfl (ow_chg (c' := owC stepL F45 [.string x45.name, .slice a45 x45.after.length c45, .bool x45.undo] x45) 1 rfl (fun w hA => stepL_mk x45 hA) rfl (ow_appE Tb (i := 3) (j := 0) (k := 1) rfl rfl rfl rfl rfl rfl rfl rfl rfl rfl rfl (app1 hll47) (by decide) rfl rfl (fun a47 c47 F47 => kk_wl ?_)))
        refine wl_u rfl (ow_y (yh_assign rfl rfl) rfl rfl (kk_wl ?_))
        refine wl_nil ?_
        refine ex_block_normal ?_
        refine ex_seq ?_
        refine cw_region ?_
        refine wl_u rfl (ow_y (yh_move rfl rfl) rfl rfl (kk_wl ?_))
        refine wl_u rfl (ow_y (yh_arI rfl rfl rfl rfl (by omega)) rfl rfl (kk_wl ?_))
        refine wl_u rfl (ow_y (yh_assign rfl rfl) rfl rfl (kk_wl ?_))
        refine wl_nil ?_
        exact ex_next [2, 0] (hn11 (n11, (j115.1 ++ [x45]), j115.2, s7 + 1, a47, c47, F47) (Nat.lt_succ_self _) h) ⟨rfl, rfl, rfl, rfl, rfl, trivial⟩ (by kernel_rfl)
      · skip
        replace h := bf c2 h
        refine cw_skip ?_
        refine ex_block_normal ?_
        refine ex_seq ?_
        refine cw_region ?_
        refine wl_u rfl (ow_y (yh_move rfl rfl) rfl rfl (kk_wl ?_))
        refine wl_u rfl (ow_y (yh_arI rfl rfl rfl rfl (by omega)) rfl rfl (kk_wl ?_))
        refine wl_u rfl (ow_y (yh_assign rfl rfl) rfl rfl (kk_wl ?_))
        refine wl_nil ?_
        exact ex_next [0, 1] (hn11 (n11, j115.1, j115.2, s7 + 1, ak115_5, ck115_5, Fk115_5) (Nat.lt_succ_self _) h) ⟨rfl, rfl, rfl, rfl, rfl, trivial⟩ (by kernel_rfl)
    · skip
      have h := he115
      refine cw_seq ?_
      refine cw_dr [0, 1, 2, 3, 4, 5, 6, 7, 8, 9, 10, 11] [] [blkC g3 100 [.string s_.name, .slice a_s__after s_.after.length c_s__after, .bool s_.undo], owC stepsL Fs5 [.slice as5 s5.length cs5] s5] (by kernel_rfl) ?_
      refine wd_take (i := 0) [0, 1] rfl rfl rfl rfl rfl (by kernel_rfl) (by kernel_rfl) (fun _ _ _ _ h => h) (yh_move rfl rfl) ?_
      refine wd_take (i := 1) [0, 1] rfl rfl rfl rfl rfl (by kernel_rfl) (by kernel_rfl) (fun _ _ _ _ h => h) (yh_not rfl rfl) ?_
      refine wd_take (i := 2) [0, 1] rfl rfl rfl rfl rfl (by kernel_rfl) (by kernel_rfl) (fun _ _ _ _ h => h) (yh_move rfl rfl) ?_
      refine wd_split 3 rfl rfl rfl (fun c3 => ?_) (fun c3 => ?_)
      · skip
        replace h := bt c3 h
        refine wd_take (i := 3) [0, 1] rfl rfl rfl rfl rfl (by kernel_rfl) (by kernel_rfl) (fun _ _ _ _ h => h) (yh_move rfl rfl) ?_
        refine wd_take (i := 4) [0, 1] rfl rfl rfl rfl rfl (by kernel_rfl) (by kernel_rfl) (fun _ _ _ _ h => h) (yh_move rfl rfl) ?_
        obtain ⟨y20, hy20, h⟩ := bd h
        obtain ⟨b20, o20, ha20⟩ := sl_addr h_steps hy20
        subst ha20
        obtain ⟨a20, e20, hc20, hf20⟩ := get_step h_steps hy20
        have mx20 := rd_max hf20
        refine wd_take (i := 5) [0, 1] rfl rfl rfl rfl rfl (by kernel_rfl) (by kernel_rfl) (fun _ _ _ _ h => h) (yh_idx Tb (k := s7) rfl rfl rfl rfl (get_lt hy20) rfl rfl) ?_
        refine wd_take (i := 6) [0, 1] rfl rfl rfl rfl rfl (by kernel_rfl) (by kernel_rfl) (fun _ _ _ _ h => h) (yh_field Tb rfl rfl rfl) ?_
        refine wd_take (i := 7) [0, 1] rfl rfl rfl rfl rfl (by kernel_rfl) (by kernel_rfl) (fun _ _ _ _ h => h) (yh_loadAF Tb (j := 0) rfl rfl rfl hc20 rfl) ?_
        refine wd_take (i := 8) [0, 1] rfl rfl rfl rfl rfl (by kernel_rfl) (by kernel_rfl) (fun _ _ _ _ h => h) (yh_field Tb rfl rfl rfl) ?_
        refine wd_take (i := 9) [0, 1] rfl rfl rfl rfl rfl (by kernel_rfl) (by kernel_rfl) (fun _ _ _ _ h => h) (yh_loadB Tb (k := 0) rfl rfl rfl rfl rfl) ?_
        refine wd_take (i := 10) [0, 1] rfl rfl rfl rfl rfl (by kernel_rfl) (by kernel_rfl) (fun _ _ _ _ h => h) (yh_cmpS rfl rfl rfl rfl) ?_
        refine wd_take (i := 11) [0, 1] rfl rfl rfl rfl rfl (by kernel_rfl) (by kernel_rfl) (fun _ _ _ _ h => h) (yh_pickT rfl rfl rfl) ?_
        refine wd_done (by kernel_rfl) ?_
        refine ex_seq ?_
        refine cw_split rfl (fun c4 => ?_) (fun c4 => ?_)
        · skip
          replace h := bt c4 h
          refine cw_seq ?_
          refine cw_region ?_
          refine wl_u rfl (ow_y (yh_move rfl rfl) rfl rfl (kk_wl ?_))
          refine wl_u rfl (ow_y (yh_loadBA Tb (k := 0) rfl rfl rfl rfl rfl rfl) rfl rfl (kk_wl ?_))
          obtain ⟨x29, hx29, h⟩ := bd h
          refine wl_u rfl (ow_cN1 rfl hb128 rfl (fun w hw => c_spec_l2Step N _ _ hx29 w (Lay.at_ h_s__after hw)) rfl rfl (fun a29 c29 F29 => kk_wl ?_))
          refine wl_u rfl (ow_litA Tb rfl rfl rfl rfl rfl rfl (by decide) rfl rfl (fun g30 => kk_wl ?_))
          obtain ⟨hll31, h⟩ := bd_appd h
          refine wl_u rfl (ow_chg (c' := owC stepL F29 [.string x29.name, .slice a29 x29.after.length c29, .bool x29.undo] x29) 1 rfl (fun w hA => stepL_mk x29 hA) rfl (ow_appE Tb (i := 3) (j := 0) (k := 1) rfl rfl rfl rfl rfl rfl rfl rfl rfl rfl rfl (app1 hll31) (by decide) rfl rfl (fun a31 c31 F31 => kk_wl ?_)))
          refine wl_u rfl (ow_y (yh_assign rfl rfl) rfl rfl (kk_wl ?_))
          refine wl_nil ?_
          refine ex_seq ?_
          refine cw_region ?_
          refine wl_u rfl (ow_y (yh_assign rfl rfl) rfl rfl (kk_wl ?_))
          refine wl_nil ?_
          obtain rfl := Option.some.inj h
          exact ex_next [2, 0] (hn115 (a31, c31, F31) trivial) ⟨rfl, rfl, rfl, rfl, rfl, trivial⟩ (by kernel_rfl)
        · skip
          replace h := bf c4 h
          refine cw_skip ?_
          obtain rfl := Option.some.inj h
          exact ex_next [0, 1] (hn115 (as5, cs5, Fs5) trivial) ⟨rfl, rfl, rfl, rfl, rfl, trivial⟩ (by kernel_rfl)
      · skip
        replace h := bf c3 h
        refine wd_skip (i := 3) [0, 1] rfl rfl rfl rfl (by kernel_rfl) (by kernel_rfl) (fun _ _ _ h => h) ?_
        refine wd_skip (i := 4) [0, 1] rfl rfl rfl rfl (by kernel_rfl) (by kernel_rfl) (fun _ _ _ h => h) ?_
        refine wd_skip (i := 5) [0, 1] rfl rfl rfl rfl (by kernel_rfl) (by kernel_rfl) (fun _ _ _ h => h) ?_
        refine wd_skip (i := 6) [0, 1] rfl rfl rfl rfl (by kernel_rfl) (by kernel_rfl) (fun _ _ _ h => h) ?_
        refine wd_skip (i := 7) [0, 1] rfl rfl rfl rfl (by kernel_rfl) (by kernel_rfl) (fun _ _ _ h => h) ?_
        refine wd_skip (i := 8) [0, 1] rfl rfl rfl rfl (by kernel_rfl) (by kernel_rfl) (fun _ _ _ h => h) ?_
        refine wd_skip (i := 9) [0, 1] rfl rfl rfl rfl (by kernel_rfl) (by kernel_rfl) (fun _ _ _ h => h) ?_
        refine wd_skip (i := 10) [0, 1] rfl rfl rfl rfl (by kernel_rfl) (by kernel_rfl) (fun _ _ _ h => h) ?_
        refine wd_take (i := 11) [0, 1] rfl rfl rfl rfl rfl (by kernel_rfl) (by kernel_rfl) (fun _ _ _ _ h => h) (yh_pickF rfl rfl rfl) ?_
        refine wd_done (by kernel_rfl) ?_
        refine ex_seq ?_
        refine cw_false rfl ?_
        refine cw_skip ?_
        obtain rfl := Option.some.inj h
        exact ex_next [0, 1] (hn115 (as5, cs5, Fs5) trivial) ⟨rfl, rfl, rfl, rfl, rfl, trivial⟩ (by kernel_rfl)
  · skip
    replace h := bf c1 h
    have q2 := ltb_false.1 c1
    refine cw_exit ?_
    refine ex_then_exit ?_
    refine ex_then_exit ?_
    obtain rfl := Option.some.inj h
    have h := go_brk hk11
    refine ex_block_exit ?_
    refine ex_seq ?_
    refine cw_seq ?_
    refine cw_seq ?_
    refine cw_region ?_
    refine wl_u rfl (ow_y (yh_move rfl rfl) rfl rfl (kk_wl ?_))
    refine wl_u rfl (ow_y (yh_not rfl rfl) rfl rfl (kk_wl ?_))
    refine wl_nil ?_
    refine ex_seq ?_
    refine cw_split rfl (fun c5 => ?_) (fun c5 => ?_)
    · skip
      replace h := bt c5 h
      refine cw_region ?_
      refine wl_u rfl (ow_y (yh_move rfl rfl) rfl rfl (kk_wl ?_))
      refine wl_u rfl (ow_y (yh_loadBA Tb (k := 0) rfl rfl rfl rfl rfl rfl) rfl rfl (kk_wl ?_))
      obtain ⟨x52, hx52, h⟩ := bd h
      refine wl_u rfl (ow_cN1 rfl hb128 rfl (fun w hw => c_spec_l2Step N _ _ hx52 w (Lay.at_ h_s__after hw)) rfl rfl (fun a52 c52 F52 => kk_wl ?_))
      refine wl_u rfl (ow_litA Tb rfl rfl rfl rfl rfl rfl (by decide) rfl rfl (fun g53 => kk_wl ?_))
      obtain ⟨hll54, h⟩ := bd_appd h
      refine wl_u rfl (ow_chg (c' := owC stepL F52 [.string x52.name, .slice a52 x52.after.length c52, .bool x52.undo] x52) 1 rfl (fun w hA => stepL_mk x52 hA) rfl (ow_appE Tb (i := 3) (j := 0) (k := 1) rfl rfl rfl rfl rfl rfl rfl rfl rfl rfl rfl (app1 hll54) (by decide) rfl rfl (fun a54 c54 F54 => kk_wl ?_)))
      refine wl_u rfl (ow_y (yh_assign rfl rfl) rfl rfl (kk_wl ?_))
      refine wl_nil ?_
      refine ex_seq ?_
      refine cw_seq ?_
      refine cw_region ?_
      refine wl_u rfl (ow_y (yh_move rfl rfl) rfl rfl (kk_wl ?_))
      refine wl_u rfl (ow_y (yh_assign rfl rfl) rfl rfl (kk_wl ?_))
      refine wl_nil ?_
      refine ex_seq ?_
      refine cw_ret ?_
      obtain rfl := Option.some.inj h
      exact ex_r1 Tb rfl (.tmp rfl) (fun wq hq => ⟨_, rfl, hq.ext, ⟨a54, c54, F54, rfl, NewC.sel [0] hq rfl⟩⟩)
    · skip
      replace h := bf c5 h
      refine cw_skip ?_
      refine ex_seq ?_
      refine cw_seq ?_
      refine cw_region ?_
      refine wl_u rfl (ow_y (yh_move rfl rfl) rfl rfl (kk_wl ?_))
      refine wl_u rfl (ow_y (yh_assign rfl rfl) rfl rfl (kk_wl ?_))
      refine wl_nil ?_
      refine ex_seq ?_
      refine cw_ret ?_
      obtain rfl := Option.some.inj h
      exact ex_r1 Tb rfl (.tmp rfl) (fun wq hq => ⟨_, rfl, hq.ext, ⟨as5, cs5, Fs5, rfl, NewC.sel [1] hq rfl⟩⟩)

def m_spec_l1Put_L6 (N : Nat) (list_ : List Str) (name : Str) : Nat → (List Str) → Bool → Nat → Option (Ex (List Str × Bool × Nat) (List Str))
  | 0, _, _, _ => none
  | n + 1, s5, s6, s7 => (bif ltb ((s7 : Nat) : Int) ((list_.length : Nat) : Int) then ((bif !s6 then (list_[s7]?).bind fun y20 => (bif !(slt y20 name) then (appd s5 ([name] : List Str)).bind fun l28 => some ((s5 ++ ([name] : List Str)), true)
 else some (s5, s6))
 else some (s5, s6)) : Option ((List Str) × Bool)).bind fun j110 => (list_[s7]?).bind fun y31 => (bif !(seq y31 name) then (appd j110.1 ([y31] : List Str)).bind fun l41 => m_spec_l1Put_L6 N list_ name n (j110.1 ++ ([y31] : List Str)) j110.2 (s7 + 1)
 else m_spec_l1Put_L6 N list_ name n j110.1 j110.2 (s7 + 1))
 else some (Ex.brk (s5, s6, s7)))

def m_spec_l1Put (N : Nat) (list_ : List Str) (name : Str) : Option (List Str) := (m_spec_l1Put_L6 N list_ name N ([] : List Str) false 0).bind fun e6 => e6.go (fun r => r) fun b6 => (bif !b6.2.1 then (appd b6.1 ([name] : List Str)).bind fun l47 => some (b6.1 ++ ([name] : List Str))
 else some b6.1)

set_option maxHeartbeats 4000000 in
theorem c_spec_l1Put (N : Nat) (list_ : List Str) (name : Str) (res : List Str) (h : m_spec_l1Put N list_ name = some res) (w : World) {a_list_ : Option Addr} {c_list_ : Nat} (h_list_ : strsL.rd w [] [.slice a_list_ list_.length c_list_] list_) : Ret Try.prog 140 [.slice a_list_ list_.length c_list_, .string name] w [] fun v w' => ∃ a1 c1 F1, v = .slice a1 res.length c1 ∧ NewC w w' [owC strsL F1 [.slice a1 res.length c1] res] := by
  have mh_list_ := rd_max h_list_
  unfold m_spec_l1Put at h
  refine ret_enter Try.func140 rfl Try.ntmps140 rfl (Hp.refl w _) ?_
  refine cw_seq ?_
  refine cw_region ?_
  refine wl_u rfl (ow_y (yh_assign rfl rfl) rfl rfl (kk_wl ?_))
  refine wl_nil ?_
  refine ex_seq ?_
  refine cw_seq ?_
  refine cw_region ?_
  refine wl_u rfl (ow_lit0 Tb rfl rfl rfl rfl rfl rfl (fun g8 => kk_chg (c' := owC strsL [g8] [.slice (some ⟨g8, 0, none⟩) 0 0] ([] : List Str)) 0 rfl (fun w hA => own_strsL ([] : List Str) hA rfl (by simp [maxLen])) rfl (kk_wl ?_)))
  refine wl_u rfl (ow_y (yh_assign rfl rfl) rfl rfl (kk_wl ?_))
  refine wl_nil ?_
  refine ex_seq ?_
  refine cw_seq ?_
  refine cw_region ?_
  refine wl_u rfl (ow_y (yh_assign rfl rfl) rfl rfl (kk_wl ?_))
  refine wl_nil ?_
  refine ex_seq ?_
  refine cw_seq ?_
  refine cw_seq ?_
  refine cw_region ?_
  refine wl_u rfl (ow_y (yh_assign rfl rfl) rfl rfl (kk_wl ?_))
  refine wl_nil ?_
  refine ex_seq ?_
  refine cw_block ?_
  obtain ⟨e6, he6, hk6⟩ := bd h
  clear h
  refine cw_loopG (σ := Nat × (List Str) × Bool × Nat × (Option Addr) × Nat × (List Nat)) (fun s => m_spec_l1Put_L6 N list_ name s.1 s.2.1 s.2.2.1 s.2.2.2.1 = some e6) (fun s => [(0, .slice a_list_ list_.length c_list_), (1, .string name), (5, .slice s.2.2.2.2.1 s.2.1.length s.2.2.2.2.2.1), (6, .bool s.2.2.1), (7, .int .i64 ((s.2.2.2.1 : Nat) : Int))]) (fun s => [owC strsL s.2.2.2.2.2.2 [.slice s.2.2.2.2.1 s.2.1.length s.2.2.2.2.2.1] s.2.1]) (fun s => s.1) (N, ([] : List Str), false, 0, (some ⟨g8, 0, none⟩), 0, [g8]) [0] he6 ⟨rfl, rfl, rfl, rfl, rfl, trivial⟩ rfl (fun KL s he6 hn6 => ?_)
  obtain ⟨n6, s5, s6, s7, as5, cs5, Fs5⟩ := s
  simp only at he6 hn6 ⊢
  rcases n6 with _ | n6
  · exact nosome he6
  have h := he6; rw [m_spec_l1Put_L6] at h
  refine cw_seq ?_
  refine cw_seq ?_
  refine cw_region ?_
  refine wl_u rfl (ow_y (yh_move rfl rfl) rfl rfl (kk_wl ?_))
  refine wl_u rfl (ow_y (yh_move rfl rfl) rfl rfl (kk_wl ?_))
  refine wl_u rfl (ow_y (yh_lenS Tb rfl rfl rfl rfl) rfl rfl (kk_wl ?_))
  refine wl_u rfl (ow_y (yh_cmpI rfl rfl rfl rfl) rfl rfl (kk_wl ?_))
  refine wl_nil ?_
  refine ex_seq ?_
  refine cw_split rfl (fun c1 => ?_) (fun c1 => ?_)
  · skip
    replace h := bt c1 h
    have q1 := ltb_true.1 c1
    refine cw_skip ?_
    refine ex_seq ?_
    refine cw_seq ?_
    refine cw_block ?_
    obtain ⟨j110, he110, hk110⟩ := bd h
    clear h
    refine cw_cut (σ := (Option Addr) × Nat × (List Nat)) (fun s => True) (fun s => [(0, .slice a_list_ list_.length c_list_), (1, .string name), (5, .slice s.1 j110.1.length s.2.1), (6, .bool j110.2), (7, .int .i64 ((s7 : Nat) : Int))]) (fun s => [owC strsL s.2.2 [.slice s.1 j110.1.length s.2.1] j110.1]) (fun s hI => ?_) (fun KL hn110 => ?_)
    · skip
      obtain ⟨ak110_5, ck110_5, Fk110_5⟩ := s
      simp only at ⊢
      have h := hk110
      refine cw_seq ?_
      refine cw_region ?_
      refine wl_u rfl (ow_y (yh_move rfl rfl) rfl rfl (kk_wl ?_))
      refine wl_u rfl (ow_y (yh_move rfl rfl) rfl rfl (kk_wl ?_))
      obtain ⟨y31, hy31, h⟩ := bd h
      obtain ⟨b31, o31, ha31⟩ := sl_addr h_list_ hy31
      subst ha31
      have hc31 := get_str h_list_ hy31
      refine wl_u rfl (ow_y (yh_idx Tb (k := s7) rfl rfl rfl rfl (get_lt hy31) rfl rfl) rfl rfl (kk_wl ?_))
      refine wl_u rfl (ow_y (yh_loadA0 Tb rfl rfl rfl hc31 rfl) rfl rfl (kk_wl ?_))
      refine wl_u rfl (ow_y (yh_move rfl rfl) rfl rfl (kk_wl ?_))
      refine wl_u rfl (ow_y (yh_cmpS rfl rfl rfl rfl) rfl rfl (kk_wl ?_))
      refine wl_nil ?_
      refine ex_seq ?_
      refine cw_split rfl (fun c2 => ?_) (fun c2 => ?_)
      · skip
        replace h := bt c2 h
        refine cw_region ?_
        refine wl_u rfl (ow_y (yh_move rfl rfl) rfl rfl (kk_wl ?_))
        refine wl_u rfl (ow_y (yh_move rfl rfl) rfl rfl (kk_wl ?_))
        refine wl_u rfl (ow_y (yh_move rfl rfl) rfl rfl (kk_wl ?_))
        refine wl_u rfl (ow_y (yh_idx Tb (k := s7) rfl rfl rfl rfl (get_lt hy31) rfl rfl) rfl rfl (kk_wl ?_))
        refine wl_u rfl (ow_y (yh_loadA0 Tb rfl rfl rfl hc31 rfl) rfl rfl (kk_wl ?_))
        refine wl_u rfl (ow_lit1 Tb rfl rfl rfl rfl rfl rfl rfl rfl rfl rfl (fun g40 => kk_chg (c' := owC strsL [g40] [.slice (some ⟨g40, 0, none⟩) 1 1] ([y31] : List Str)) 0 rfl (fun w hA => own_strsL ([y31] : List Str) hA rfl (by simp [maxLen])) rfl (kk_wl ?_)))
        obtain ⟨hll41, h⟩ := bd_appd h
        refine wl_u rfl (ow_appP Tb (i := 1) rfl rfl rfl rfl rfl (fun w hw => rdo (A := strsL) 0 rfl hw) rfl rfl rfl rfl hll41 (by decide) rfl rfl (fun a41 c41 F41 => kk_wl ?_))
        refine wl_u rfl (ow_y (yh_assign rfl rfl) rfl rfl (kk_wl ?_))
        refine wl_nil ?_
        refine ex_block_normal ?_
        refine ex_seq ?_
        refine cw_region ?_
        refine wl_u rfl (ow_y (yh_move rfl rfl) rfl rfl (kk_wl ?_))
        refine wl_u rfl (ow_y (yh_arI rfl rfl rfl rfl (by omega)) rfl rfl (kk_wl ?_))
        refine wl_u rfl (ow_y (yh_assign rfl rfl) rfl rfl (kk_wl ?_))
        refine wl_nil ?_
        exact ex_next [0] (hn6 (n6, (j110.1 ++ ([y31] : List Str)), j110.2, s7 + 1, a41, c41, F41) (Nat.lt_succ_self _) h) ⟨rfl, rfl, rfl, rfl, rfl, trivial⟩ (by kernel_rfl)
      · skip
        replace h := bf c2 h
        refine cw_skip ?_
        refine ex_block_normal ?_
        refine ex_seq ?_
        refine cw_region ?_
        refine wl_u rfl (ow_y (yh_move rfl rfl) rfl rfl (kk_wl ?_))
        refine wl_u rfl (ow_y (yh_arI rfl rfl rfl rfl (by omega)) rfl rfl (kk_wl ?_))
        refine wl_u rfl (ow_y (yh_assign rfl rfl) rfl rfl (kk_wl ?_))
        refine wl_nil ?_
        exact ex_next [0] (hn6 (n6, j110.1, j110.2, s7 + 1, ak110_5, ck110_5, Fk110_5) (Nat.lt_succ_self _) h) ⟨rfl, rfl, rfl, rfl, rfl, trivial⟩ (by kernel_rfl)
    · skip
      have h := he110
      refine cw_seq ?_
      refine cw_region ?_
      refine wl_u rfl (ow_y (yh_move rfl rfl) rfl rfl (kk_wl ?_))
      refine wl_u rfl (ow_y (yh_not rfl rfl) rfl rfl (kk_wl ?_))
      refine wl_u rfl (ow_y (yh_move rfl rfl) rfl rfl (kk_wl ?_))
      refine wl_s rfl rfl (fun c3 => ?_) (fun c3 => ?_)
      · skip
        replace h := bt c3 h
        refine wl_g rfl rfl (ow_y (yh_move rfl rfl) rfl rfl (kk_wl ?_))
        refine wl_g rfl rfl (ow_y (yh_move rfl rfl) rfl rfl (kk_wl ?_))
        obtain ⟨y20, hy20, h⟩ := bd h
        obtain ⟨b20, o20, ha20⟩ := sl_addr h_list_ hy20
        subst ha20
        have hc20 := get_str h_list_ hy20
        refine wl_g rfl rfl (ow_y (yh_idx Tb (k := s7) rfl rfl rfl rfl (get_lt hy20) rfl rfl) rfl rfl (kk_wl ?_))
        refine wl_g rfl rfl (ow_y (yh_loadA0 Tb rfl rfl rfl hc20 rfl) rfl rfl (kk_wl ?_))
        refine wl_g rfl rfl (ow_y (yh_move rfl rfl) rfl rfl (kk_wl ?_))
        refine wl_g rfl rfl (ow_y (yh_cmpS rfl rfl rfl rfl) rfl rfl (kk_wl ?_))
        refine wl_u rfl (ow_y (yh_pickT rfl rfl rfl) rfl rfl (kk_wl ?_))
        refine wl_nil ?_
        refine ex_seq ?_
        refine cw_split rfl (fun c4 => ?_) (fun c4 => ?_)
        · skip
          replace h := bt c4 h
          refine cw_seq ?_
          refine cw_region ?_
          refine wl_u rfl (ow_y (yh_move rfl rfl) rfl rfl (kk_wl ?_))
          refine wl_u rfl (ow_y (yh_move rfl rfl) rfl rfl (kk_wl ?_))
          refine wl_u rfl (ow_lit1 Tb rfl rfl rfl rfl rfl rfl rfl rfl rfl rfl (fun g27 => kk_chg (c' := owC strsL [g27] [.slice (some ⟨g27, 0, none⟩) 1 1] ([name] : List Str)) 0 rfl (fun w hA => own_strsL ([name] : List Str) hA rfl (by simp [maxLen])) rfl (kk_wl ?_)))
          obtain ⟨hll28, h⟩ := bd_appd h
          refine wl_u rfl (ow_appP Tb (i := 1) rfl rfl rfl rfl rfl (fun w hw => rdo (A := strsL) 0 rfl hw) rfl rfl rfl rfl hll28 (by decide) rfl rfl (fun a28 c28 F28 => kk_wl ?_))
          refine wl_u rfl (ow_y (yh_assign rfl rfl) rfl rfl (kk_wl ?_))
          refine wl_nil ?_
          refine ex_seq ?_
          refine cw_region ?_
          refine wl_u rfl (ow_y (yh_assign rfl rfl) rfl rfl (kk_wl ?_))
          refine wl_nil ?_
          obtain rfl := Option.some.inj h
          exact ex_next [0] (hn110 (a28, c28, F28) trivial) ⟨rfl, rfl, rfl, rfl, rfl, trivial⟩ (by kernel_rfl)
        · skip
          replace h := bf c4 h
          refine cw_skip ?_
          obtain rfl := Option.some.inj h
          exact ex_next [0] (hn110 (as5, cs5, Fs5) trivial) ⟨rfl, rfl, rfl, rfl, rfl, trivial⟩ (by kernel_rfl)
      · skip
        replace h := bf c3 h
        refine wl_n rfl rfl rfl rfl ?_
        refine wl_n rfl rfl rfl rfl ?_
        refine wl_n rfl rfl rfl rfl ?_
        refine wl_n rfl rfl rfl rfl ?_
        refine wl_n rfl rfl rfl rfl ?_
        refine wl_n rfl rfl rfl rfl ?_
        refine wl_u rfl (ow_y (yh_pickF rfl rfl rfl) rfl rfl (kk_wl ?_))
        refine wl_nil ?_
        refine ex_seq ?_
        refine cw_false rfl ?_
        refine cw_skip ?_
        obtain rfl := Option.some.inj h
        exact ex_next [0] (hn110 (as5, cs5, Fs5) trivial) ⟨rfl, rfl, rfl, rfl, rfl, trivial⟩ (by kernel_rfl)
  · skip
    replace h := bf c1 h
    have q2 := ltb_false.1 c1
    refine cw_exit ?_
    refine ex_then_exit ?_
    refine ex_then_exit ?_
    obtain rfl := Option.some.inj h
    have h := go_brk hk6
    refine ex_block_exit ?_
    refine ex_seq ?_
    refine cw_seq ?_
    refine cw_seq ?_
    refine cw_region ?_
    refine wl_u rfl (ow_y (yh_move rfl rfl) rfl rfl (kk_wl ?_))
    refine wl_u rfl (ow_y (yh_not rfl rfl) rfl rfl (kk_wl ?_))
    refine wl_nil ?_
    refine ex_seq ?_
    refine cw_split rfl (fun c5 => ?_) (fun c5 => ?_)
    · skip
      replace h := bt c5 h
      refine cw_region ?_
      refine wl_u rfl (ow_y (yh_move rfl rfl) rfl rfl (kk_wl ?_))
      refine wl_u rfl (ow_y (yh_move rfl rfl) rfl rfl (kk_wl ?_))
      refine wl_u rfl (ow_lit1 Tb rfl rfl rfl rfl rfl rfl rfl rfl rfl rfl (fun g46 => kk_chg (c' := owC strsL [g46] [.slice (some ⟨g46, 0, none⟩) 1 1] ([name] : List Str)) 0 rfl (fun w hA => own_strsL ([name] : List Str) hA rfl (by simp [maxLen])) rfl (kk_wl ?_)))
      obtain ⟨hll47, h⟩ := bd_appd h
      refine wl_u rfl (ow_appP Tb (i := 1) rfl rfl rfl rfl rfl (fun w hw => rdo (A := strsL) 0 rfl hw) rfl rfl rfl rfl hll47 (by decide) rfl rfl (fun a47 c47 F47 => kk_wl ?_))
      refine wl_u rfl (ow_y (yh_assign rfl rfl) rfl rfl (kk_wl ?_))
      refine wl_nil ?_
      refine ex_seq ?_
      refine cw_seq ?_
      refine cw_region ?_
      refine wl_u rfl (ow_y (yh_move rfl rfl) rfl rfl (kk_wl ?_))
      refine wl_u rfl (ow_y (yh_assign rfl rfl) rfl rfl (kk_wl ?_))
      refine wl_nil ?_
      refine ex_seq ?_
      refine cw_ret ?_
      obtain rfl := Option.some.inj h
      exact ex_r1 Tb rfl (.tmp rfl) (fun wq hq => ⟨_, rfl, hq.ext, ⟨a47, c47, F47, rfl, NewC.sel [0] hq rfl⟩⟩)
    · skip
      replace h := bf c5 h
      refine cw_skip ?_
      refine ex_seq ?_
      refine cw_seq ?_
      refine cw_region ?_
      refine wl_u rfl (ow_y (yh_move rfl rfl) rfl rfl (kk_wl ?_))
      refine wl_u rfl (ow_y (yh_assign rfl rfl) rfl rfl (kk_wl ?_))
      refine wl_nil ?_
      refine ex_seq ?_
      refine cw_ret ?_
      obtain rfl := Option.some.inj h
      exact ex_r1 Tb rfl (.tmp rfl) (fun wq hq => ⟨_, rfl, hq.ext, ⟨as5, cs5, Fs5, rfl, NewC.sel [0] hq rfl⟩⟩)

def m_spec_l12Without_L16 (N : Nat) (u1 : Str) (x29 : Step) : Nat → (List Str) → Nat → Option (Ex (List Str × Nat) (List Step))
  | 0, _, _ => none
  | n + 1, s9, s10 => (bif ltb ((s10 : Nat) : Int) ((x29.after.length : Nat) : Int) then (x29.after[s10]?).bind fun y46 => (bif !(seq y46 u1) then (m_spec_l1Put N s9 y46).bind fun x56 => m_spec_l12Without_L16 N u1 x29 n x56 (s10 + 1)
 else m_spec_l12Without_L16 N u1 x29 n s9 (s10 + 1))
 else some (Ex.brk (s9, s10)))

def m_spec_l12Without_L23 (N : Nat) (y17 : Step) : Nat → (List Str) → Nat → Option (Ex (List Str × Nat) (List Step))
  | 0, _, _ => none
  | n + 1, s9, s11 => (bif ltb ((s11 : Nat) : Int) ((y17.after.length : Nat) : Int) then (y17.after[s11]?).bind fun y68 => (m_spec_l1Put N s9 y68).bind fun x70 => m_spec_l12Without_L23 N y17 n x70 (s11 + 1)
 else some (Ex.brk (s9, s11)))

def m_spec_l12Without_L6 (N : Nat) (u0 : List Step) (u1 : Str) (y17 : Step) : Nat → (List Step) → Nat → Option (Ex (List Step × Nat) (List Step))
  | 0, _, _ => none
  | n + 1, s5, s7 => (bif ltb ((s7 : Nat) : Int) ((u0.length : Nat) : Int) then (u0[s7]?).bind fun y27 => (m_spec_l2Step N y27).bind fun x29 => (m_spec_l1At N x29.after u1).bind fun x33 => (bif leb 0 x33 then (m_spec_l12Without_L16 N u1 x29 N ([] : List Str) 0).bind fun e16 => e16.go Ex.ret fun b16 => (m_spec_l12Without_L23 N y17 N b16.1 0).bind fun e23 => e23.go Ex.ret fun b23 => (bif !(seq x29.name u1) then (appd s5 [(Step.mk x29.name b23.1 x29.undo)]).bind fun l80 => m_spec_l12Without_L6 N u0 u1 y17 n (s5 ++ [(Step.mk x29.name b23.1 x29.undo)]) (s7 + 1)
 else m_spec_l12Without_L6 N u0 u1 y17 n s5 (s7 + 1))
 else (bif !(seq x29.name u1) then (appd s5 [x29]).bind fun l80 => m_spec_l12Without_L6 N u0 u1 y17 n (s5 ++ [x29]) (s7 + 1)
 else m_spec_l12Without_L6 N u0 u1 y17 n s5 (s7 + 1)))
 else some (Ex.brk (s5, s7)))

def m_spec_l12Without (N : Nat) (u0 : List Step) (u1 : Str) : Option (List Step) := (m_spec_l2At N u0 u1).bind fun x16 => (geti u0 x16).bind fun y17 => (m_spec_l12Without_L6 N u0 u1 y17 N ([] : List Step) 0).bind fun e6 => e6.go (fun r => r) fun b6 => some b6.1

set_option maxHeartbeats 4000000 in
theorem c_spec_l12Without (N : Nat) (u0 : List Step) (u1 : Str) (res : List Step) (h : m_spec_l12Without N u0 u1 = some res) (w : World) {a_u0 : Option Addr} {c_u0 : Nat} (h_u0 : stepsL.rd w [] [.slice a_u0 u0.length c_u0] u0) : Ret Try.prog 137 [.slice a_u0 u0.length c_u0, .string u1] w [] fun v w' => ∃ a1 c1 F1, v = .slice a1 res.length c1 ∧ NewC w w' [owC stepsL F1 [.slice a1 res.length c1] res] := by
  have mh_u0 := rd_max h_u0
  unfold m_spec_l12Without at h
  refine ret_enter Try.func137 rfl Try.ntmps137 rfl (Hp.refl w _) ?_
  refine cw_seq ?_
  refine cw_region ?_
  refine wl_u rfl (ow_y (yh_assign rfl rfl) rfl rfl (kk_wl ?_))
  refine wl_nil ?_
  refine ex_seq ?_
  refine cw_seq ?_
  refine cw_region ?_
  refine wl_u rfl (ow_lit0 Tb rfl rfl rfl rfl rfl rfl (fun g12 => kk_chg (c' := owC stepsL [g12] [.slice (some ⟨g12, 0, none⟩) 0 0] ([] : List Step)) 0 rfl (fun w hA => own_stepsL ([] : List Step) hA rfl (by simp [maxLen])) rfl (kk_wl ?_)))
  refine wl_u rfl (ow_y (yh_assign rfl rfl) rfl rfl (kk_wl ?_))
  refine wl_nil ?_
  refine ex_seq ?_
  refine cw_seq ?_
  refine cw_region ?_
  refine wl_u rfl (ow_y (yh_move rfl rfl) rfl rfl (kk_wl ?_))
  refine wl_u rfl (ow_y (yh_move rfl rfl) rfl rfl (kk_wl ?_))
  refine wl_u rfl (ow_y (yh_move rfl rfl) rfl rfl (kk_wl ?_))
  obtain ⟨x16, hx16, h⟩ := bd h
  refine wl_u rfl (ow_cV rfl hb80 rfl (fun w hw => c_spec_l2At N _ _ _ hx16 w (Lay.at_ h_u0 hw)) rfl rfl (kk_wl ?_))
  obtain ⟨y17, zy17, h⟩ := bd h
  obtain ⟨iy17, hy17⟩ := geti_some zy17
  obtain ⟨b17, o17, ha17⟩ := sl_addr h_u0 hy17
  subst ha17
  obtain ⟨a17, e17, hc17, hf17⟩ := get_step h_u0 hy17
  have mx17 := rd_max hf17
  refine wl_u rfl (ow_y (yh_idx Tb (k := x16.toNat) rfl rfl rfl iy17 (get_lt hy17) rfl rfl) rfl rfl (kk_wl ?_))
  refine wl_u rfl (ow_y (yh_loadAN Tb rfl rfl rfl rfl hc17 rfl) rfl rfl (kk_wl ?_))
  refine wl_u rfl (ow_allocA Tb rfl rfl rfl rfl (fun g6 => kk_wl ?_))
  refine wl_u rfl (ow_storeA Tb (k := 0) rfl rfl rfl rfl rfl rfl rfl rfl rfl (kk_wl ?_))
  refine wl_nil ?_
  refine ex_seq ?_
  refine cw_seq ?_
  refine cw_seq ?_
  refine cw_region ?_
  refine wl_u rfl (ow_y (yh_assign rfl rfl) rfl rfl (kk_wl ?_))
  refine wl_nil ?_
  refine ex_seq ?_
  refine cw_block ?_
  obtain ⟨e6, he6, hk6⟩ := bd h
  clear h
  refine cw_loopG (σ := Nat × (List Step) × Nat × (Option Addr) × Nat × (List Nat)) (fun s => m_spec_l12Without_L6 N u0 u1 y17 s.1 s.2.1 s.2.2.1 = some e6) (fun s => [(0, .slice (some ⟨b17, o17, none⟩) u0.length c_u0), (1, .string u1), (5, .slice s.2.2.2.1 s.2.1.length s.2.2.2.2.1), (6, .pointer (some ⟨g6, 0, none⟩)), (7, .int .i64 ((s.2.2.1 : Nat) : Int))]) (fun s => [owC stepsL s.2.2.2.2.2 [.slice s.2.2.2.1 s.2.1.length s.2.2.2.2.1] s.2.1, blkC g6 100 [.string y17.name, .slice a17 y17.after.length e17, .bool y17.undo]]) (fun s => s.1) (N, ([] : List Step), 0, (some ⟨g12, 0, none⟩), 0, [g12]) [1, 0] he6 ⟨rfl, rfl, rfl, rfl, rfl, trivial⟩ rfl (fun KL s he6 hn6 => ?_)
  obtain ⟨n6, s5, s7, as5, cs5, Fs5⟩ := s
  simp only at he6 hn6 ⊢
  rcases n6 with _ | n6
  · exact nosome he6
  have h := he6; rw [m_spec_l12Without_L6] at h
  refine cw_seq ?_
  refine cw_seq ?_
  refine cw_region ?_
  refine wl_u rfl (ow_y (yh_move rfl rfl) rfl rfl (kk_wl ?_))
  refine wl_u rfl (ow_y (yh_move rfl rfl) rfl rfl (kk_wl ?_))
  refine wl_u rfl (ow_y (yh_lenS Tb rfl rfl rfl rfl) rfl rfl (kk_wl ?_))
  refine wl_u rfl (ow_y (yh_cmpI rfl rfl rfl rfl) rfl rfl (kk_wl ?_))
  refine wl_nil ?_
  refine ex_seq ?_
  refine cw_split rfl (fun c1 => ?_) (fun c1 => ?_)
  · skip
    replace h := bt c1 h
    have q1 := ltb_true.1 c1
    refine cw_skip ?_
    refine ex_seq ?_
    refine cw_seq ?_
    refine cw_block ?_
    refine cw_seq ?_
    refine cw_region ?_
    refine wl_u rfl (ow_y (yh_move rfl rfl) rfl rfl (kk_wl ?_))
    refine wl_u rfl (ow_y (yh_move rfl rfl) rfl rfl (kk_wl ?_))
    obtain ⟨y27, hy27, h⟩ := bd h
    obtain ⟨a27, e27, hc27, hf27⟩ := get_step h_u0 hy27
    have mx27 := rd_max hf27
    refine wl_u rfl (ow_y (yh_idx Tb (k := s7) rfl rfl rfl rfl (get_lt hy27) rfl rfl) rfl rfl (kk_wl ?_))
    refine wl_u rfl (ow_y (yh_loadAN Tb rfl rfl rfl rfl hc27 rfl) rfl rfl (kk_wl ?_))
    obtain ⟨x29, hx29, h⟩ := bd h
    refine wl_u rfl (ow_cN1 rfl hb128 rfl (fun w hw => c_spec_l2Step N _ _ hx29 w (Lay.at_ hf27 hw)) rfl rfl (fun a29 c29 F29 => kk_wl ?_))
    refine wl_u rfl (ow_allocA Tb rfl rfl rfl rfl (fun g8 => kk_wl ?_))
    refine wl_u rfl (ow_storeA Tb (k := 0) rfl rfl rfl rfl rfl rfl rfl rfl rfl (kk_wl ?_))
    refine wl_nil ?_
    refine ex_seq ?_
    refine cw_seq ?_
    refine cw_seq ?_
    refine cw_region ?_
    refine wl_u rfl (ow_y (yh_field Tb rfl rfl rfl) rfl rfl (kk_wl ?_))
    refine wl_u rfl (ow_y (yh_loadB Tb (k := 0) rfl rfl rfl rfl rfl) rfl rfl (kk_wl ?_))
    refine wl_u rfl (ow_y (yh_move rfl rfl) rfl rfl (kk_wl ?_))
    obtain ⟨x33, hx33, h⟩ := bd h
    refine wl_u rfl (ow_cV rfl hb104 rfl (fun w hw => c_spec_l1At N _ _ _ hx33 w (rdo (A := strsL) 1 rfl hw)) rfl rfl (kk_wl ?_))
    refine wl_u rfl (ow_y (yh_cmpI rfl rfl rfl rfl) rfl rfl (kk_wl ?_))
    refine wl_nil ?_
    refine ex_seq ?_
    refine cw_split rfl (fun c2 => ?_) (fun c2 => ?_)
    · skip
      replace h := bt c2 h
      have q2 := leb_true.1 c2
      refine cw_seq ?_
      refine cw_region ?_
      refine wl_u rfl (ow_lit0 Tb rfl rfl rfl rfl rfl rfl (fun g35 => kk_chg (c' := owC strsL [g35] [.slice (some ⟨g35, 0, none⟩) 0 0] ([] : List Str)) 0 rfl (fun w hA => own_strsL ([] : List Str) hA rfl (by simp [maxLen])) rfl (kk_wl ?_)))
      refine wl_u rfl (ow_y (yh_assign rfl rfl) rfl rfl (kk_wl ?_))
      refine wl_nil ?_
      refine ex_seq ?_
      refine cw_seq ?_
      refine cw_seq ?_
      refine cw_region ?_
      refine wl_u rfl (ow_y (yh_assign rfl rfl) rfl rfl (kk_wl ?_))
      refine wl_nil ?_
      refine ex_seq ?_
      refine cw_block ?_
      obtain ⟨e16, he16, hk16⟩ := bd h
      clear h
      refine cw_loopG (σ := Nat × (List Str) × Nat × (Option Addr) × Nat × (List Nat)) (fun s => m_spec_l12Without_L16 N u1 x29 s.1 s.2.1 s.2.2.1 = some e16) (fun s => [(0, .slice (some ⟨b17, o17, none⟩) u0.length c_u0), (1, .string u1), (5, .slice as5 s5.length cs5), (6, .pointer (some ⟨g6, 0, none⟩)), (7, .int .i64 ((s7 : Nat) : Int)), (8, .pointer (some ⟨g8, 0, none⟩)), (9, .slice s.2.2.2.1 s.2.1.length s.2.2.2.2.1), (10, .int .i64 ((s.2.2.1 : Nat) : Int))]) (fun s => [owC stepsL Fs5 [.slice as5 s5.length cs5] s5, blkC g6 100 [.string y17.name, .slice a17 y17.after.length e17, .bool y17.undo], blkC g8 100 [.string x29.name, .slice a29 x29.after.length c29, .bool x29.undo], owC strsL F29 [.slice a29 x29.after.length c29] x29.after, owC strsL s.2.2.2.2.2 [.slice s.2.2.2.1 s.2.1.length s.2.2.2.2.1] s.2.1]) (fun s => s.1) (N, ([] : List Str), 0, (some ⟨g35, 0, none⟩), 0, [g35]) [3, 4, 1, 2, 0] he16 ⟨rfl, rfl, rfl, rfl, rfl, rfl, rfl, rfl, trivial⟩ rfl (fun KL s he16 hn16 => ?_)
      obtain ⟨n16, s9, s10, as9, cs9, Fs9⟩ := s
      simp only at he16 hn16 ⊢
      rcases n16 with _ | n16
      · exact nosome he16
      have h := he16; rw [m_spec_l12Without_L16] at h
      refine cw_seq ?_
      refine cw_seq ?_
      refine cw_region ?_
      refine wl_u rfl (ow_y (yh_move rfl rfl) rfl rfl (kk_wl ?_))
      refine wl_u rfl (ow_y (yh_field Tb rfl rfl rfl) rfl rfl (kk_wl ?_))
      refine wl_u rfl (ow_y (yh_loadB Tb (k := 2) rfl rfl rfl rfl rfl) rfl rfl (kk_wl ?_))
      refine wl_know (x29.after.length ≤ 9223372036854775807) (fun w hw => own_max 3 rfl hw) (fun mo39 => ?_)
      refine wl_u rfl (ow_y (yh_lenS Tb rfl rfl rfl rfl) rfl rfl (kk_wl ?_))
      refine wl_u rfl (ow_y (yh_cmpI rfl rfl rfl rfl) rfl rfl (kk_wl ?_))
      refine wl_nil ?_
      refine ex_seq ?_
      refine cw_split rfl (fun c3 => ?_) (fun c3 => ?_)
      · skip
        replace h := bt c3 h
        have q3 := ltb_true.1 c3
        refine cw_skip ?_
        refine ex_seq ?_
        refine cw_seq ?_
        refine cw_block ?_
        refine cw_seq ?_
        refine cw_region ?_
        refine wl_u rfl (ow_y (yh_field Tb rfl rfl rfl) rfl rfl (kk_wl ?_))
        refine wl_u rfl (ow_y (yh_loadB Tb (k := 2) rfl rfl rfl rfl rfl) rfl rfl (kk_wl ?_))
        refine wl_u rfl (ow_y (yh_move rfl rfl) rfl rfl (kk_wl ?_))
        obtain ⟨y46, hy46, h⟩ := bd h
        refine wl_ex (fun g => a29 = some ⟨g, 0, none⟩) (fun w hw => own_addrK 3 rfl hy46 hw) (fun g46 hg46 => ?_)
        subst hg46
        refine wl_u rfl (ow_y (yh_idx Tb (k := s10) rfl rfl rfl rfl (get_lt hy46) rfl rfl) rfl rfl (kk_wl ?_))
        refine wl_u rfl (ow_y (yh_loadO0 Tb 3 rfl rfl rfl rfl rfl hy46 rfl) rfl rfl (kk_wl ?_))
        refine wl_u rfl (ow_y (yh_move rfl rfl) rfl rfl (kk_wl ?_))
        refine wl_u rfl (ow_y (yh_cmpS rfl rfl rfl rfl) rfl rfl (kk_wl ?_))
        refine wl_nil ?_
        refine ex_seq ?_
        refine cw_split rfl (fun c4 => ?_) (fun c4 => ?_)
        · skip
          replace h := bt c4 h
          refine cw_region ?_
          refine wl_u rfl (ow_y (yh_move rfl rfl) rfl rfl (kk_wl ?_))
          refine wl_u rfl (ow_y (yh_field Tb rfl rfl rfl) rfl rfl (kk_wl ?_))
          refine wl_u rfl (ow_y (yh_loadB Tb (k := 2) rfl rfl rfl rfl rfl) rfl rfl (kk_wl ?_))
          refine wl_u rfl (ow_y (yh_move rfl rfl) rfl rfl (kk_wl ?_))
          refine wl_u rfl (ow_y (yh_idx Tb (k := s10) rfl rfl rfl rfl (get_lt hy46) rfl rfl) rfl rfl (kk_wl ?_))
          refine wl_u rfl (ow_y (yh_loadO0 Tb 3 rfl rfl rfl rfl rfl hy46 rfl) rfl rfl (kk_wl ?_))
          obtain ⟨x56, hx56, h⟩ := bd h
          refine wl_u rfl (ow_cN1 rfl hb140 rfl (fun w hw => c_spec_l1Put N _ _ _ hx56 w (rdo (A := strsL) 4 rfl hw)) rfl rfl (fun a56 c56 F56 => kk_wl ?_))
          refine wl_u rfl (ow_y (yh_assign rfl rfl) rfl rfl (kk_wl ?_))
          refine wl_nil ?_
          refine ex_block_normal ?_
          refine ex_seq ?_
          refine cw_region ?_
          refine wl_u rfl (ow_y (yh_move rfl rfl) rfl rfl (kk_wl ?_))
          refine wl_u rfl (ow_y (yh_arI rfl rfl rfl rfl (by omega)) rfl rfl (kk_wl ?_))
          refine wl_u rfl (ow_y (yh_assign rfl rfl) rfl rfl (kk_wl ?_))
          refine wl_nil ?_
          exact ex_next [1, 2, 3, 4, 0] (hn16 (n16, x56, s10 + 1, a56, c56, F56) (Nat.lt_succ_self _) h) ⟨rfl, rfl, rfl, rfl, rfl, rfl, rfl, rfl, trivial⟩ (by kernel_rfl)
        · skip
          replace h := bf c4 h
          refine cw_skip ?_
          refine ex_block_normal ?_
          refine ex_seq ?_
          refine cw_region ?_
          refine wl_u rfl (ow_y (yh_move rfl rfl) rfl rfl (kk_wl ?_))
          refine wl_u rfl (ow_y (yh_arI rfl rfl rfl rfl (by omega)) rfl rfl (kk_wl ?_))
          refine wl_u rfl (ow_y (yh_assign rfl rfl) rfl rfl (kk_wl ?_))
          refine wl_nil ?_
          exact ex_next [0, 1, 2, 3, 4] (hn16 (n16, s9, s10 + 1, as9, cs9, Fs9) (Nat.lt_succ_self _) h) ⟨rfl, rfl, rfl, rfl, rfl, rfl, rfl, rfl, trivial⟩ (by kernel_rfl)
      · skip
        replace h := bf c3 h
        have q4 := ltb_false.1 c3
        refine cw_exit ?_
        refine ex_then_exit ?_
        refine ex_then_exit ?_
        obtain rfl := Option.some.inj h
        have h := go_brk hk16
        refine ex_block_exit ?_
        refine ex_seq ?_
        refine cw_seq ?_
        refine cw_seq ?_
        refine cw_region ?_
        refine wl_u rfl (ow_y (yh_assign rfl rfl) rfl rfl (kk_wl ?_))
        refine wl_nil ?_
        refine ex_seq ?_
        refine cw_block ?_
        obtain ⟨e23, he23, hk23⟩ := bd h
        clear h
        refine cw_loopG (σ := Nat × (List Str) × Nat × (Option Addr) × Nat × (List Nat)) (fun s => m_spec_l12Without_L23 N y17 s.1 s.2.1 s.2.2.1 = some e23) (fun s => [(0, .slice (some ⟨b17, o17, none⟩) u0.length c_u0), (1, .string u1), (5, .slice as5 s5.length cs5), (6, .pointer (some ⟨g6, 0, none⟩)), (7, .int .i64 ((s7 : Nat) : Int)), (8, .pointer (some ⟨g8, 0, none⟩)), (9, .slice s.2.2.2.1 s.2.1.length s.2.2.2.2.1), (11, .int .i64 ((s.2.2.1 : Nat) : Int))]) (fun s => [owC stepsL Fs5 [.slice as5 s5.length cs5] s5, blkC g6 100 [.string y17.name, .slice a17 y17.after.length e17, .bool y17.undo], blkC g8 100 [.string x29.name, .slice a29 x29.after.length c29, .bool x29.undo], owC strsL F29 [.slice a29 x29.after.length c29] x29.after, owC strsL s.2.2.2.2.2 [.slice s.2.2.2.1 s.2.1.length s.2.2.2.2.1] s.2.1]) (fun s => s.1) (N, s9, 0, as9, cs9, Fs9) [0, 1, 2, 3, 4] he23 ⟨rfl, rfl, rfl, rfl, rfl, rfl, rfl, rfl, trivial⟩ rfl (fun KL s he23 hn23 => ?_)
        obtain ⟨n23, s9, s11, as9, cs9, Fs9⟩ := s
        simp only at he23 hn23 ⊢
        rcases n23 with _ | n23
        · exact nosome he23
        have h := he23; rw [m_spec_l12Without_L23] at h
        refine cw_seq ?_
        refine cw_seq ?_
        refine cw_region ?_
        refine wl_u rfl (ow_y (yh_move rfl rfl) rfl rfl (kk_wl ?_))
        refine wl_u rfl (ow_y (yh_field Tb rfl rfl rfl) rfl rfl (kk_wl ?_))
        refine wl_u rfl (ow_y (yh_loadB Tb (k := 1) rfl rfl rfl rfl rfl) rfl rfl (kk_wl ?_))
        refine wl_u rfl (ow_y (yh_lenS Tb rfl rfl rfl rfl) rfl rfl (kk_wl ?_))
        refine wl_u rfl (ow_y (yh_cmpI rfl rfl rfl rfl) rfl rfl (kk_wl ?_))
        refine wl_nil ?_
        refine ex_seq ?_
        refine cw_split rfl (fun c5 => ?_) (fun c5 => ?_)
        · skip
          replace h := bt c5 h
          have q5 := ltb_true.1 c5
          refine cw_skip ?_
          refine ex_seq ?_
          refine cw_seq ?_
          refine cw_block ?_
          refine cw_region ?_
          refine wl_u rfl (ow_y (yh_move rfl rfl) rfl rfl (kk_wl ?_))
          refine wl_u rfl (ow_y (yh_field Tb rfl rfl rfl) rfl rfl (kk_wl ?_))
          refine wl_u rfl (ow_y (yh_loadB Tb (k := 1) rfl rfl rfl rfl rfl) rfl rfl (kk_wl ?_))
          refine wl_u rfl (ow_y (yh_move rfl rfl) rfl rfl (kk_wl ?_))
          obtain ⟨y68, hy68, h⟩ := bd h
          obtain ⟨b68, o68, ha68⟩ := sl_addr hf17 hy68
          subst ha68
          have hc68 := get_str hf17 hy68
          refine wl_u rfl (ow_y (yh_idx Tb (k := s11) rfl rfl rfl rfl (get_lt hy68) rfl rfl) rfl rfl (kk_wl ?_))
          refine wl_u rfl (ow_y (yh_loadA0 Tb rfl rfl rfl hc68 rfl) rfl rfl (kk_wl ?_))
          obtain ⟨x70, hx70, h⟩ := bd h
          refine wl_u rfl (ow_cN1 rfl hb140 rfl (fun w hw => c_spec_l1Put N _ _ _ hx70 w (rdo (A := strsL) 4 rfl hw)) rfl rfl (fun a70 c70 F70 => kk_wl ?_))
          refine wl_u rfl (ow_y (yh_assign rfl rfl) rfl rfl (kk_wl ?_))
          refine wl_nil ?_
          refine ex_block_normal ?_
          refine ex_seq ?_
          refine cw_region ?_
          refine wl_u rfl (ow_y (yh_move rfl rfl) rfl rfl (kk_wl ?_))
          refine wl_u rfl (ow_y (yh_arI rfl rfl rfl rfl (by omega)) rfl rfl (kk_wl ?_))
          refine wl_u rfl (ow_y (yh_assign rfl rfl) rfl rfl (kk_wl ?_))
          refine wl_nil ?_
          exact ex_next [1, 2, 3, 4, 0] (hn23 (n23, x70, s11 + 1, a70, c70, F70) (Nat.lt_succ_self _) h) ⟨rfl, rfl, rfl, rfl, rfl, rfl, rfl, rfl, trivial⟩ (by kernel_rfl)
        · skip
          replace h := bf c5 h
          have q6 := ltb_false.1 c5
          refine cw_exit ?_
          refine ex_then_exit ?_
          refine ex_then_exit ?_
          obtain rfl := Option.some.inj h
          have h := go_brk hk23
          refine ex_block_exit ?_
          refine ex_seq ?_
          refine cw_region ?_
          refine wl_u rfl (ow_y (yh_move rfl rfl) rfl rfl (kk_wl ?_))
          refine wl_u rfl (ow_y (yh_field Tb rfl rfl rfl) rfl rfl (kk_wl ?_))
          refine wl_u rfl (ow_store1 Tb (k := 2) rfl rfl rfl rfl rfl rfl rfl rfl rfl (kk_wl ?_))
          refine wl_nil ?_
          refine ex_seq ?_
          refine cw_seq ?_
          refine cw_region ?_
          refine wl_u rfl (ow_y (yh_field Tb rfl rfl rfl) rfl rfl (kk_wl ?_))
          refine wl_u rfl (ow_y (yh_loadB Tb (k := 0) rfl rfl rfl rfl rfl) rfl rfl (kk_wl ?_))
          refine wl_u rfl (ow_y (yh_move rfl rfl) rfl rfl (kk_wl ?_))
          refine wl_u rfl (ow_y (yh_cmpS rfl rfl rfl rfl) rfl rfl (kk_wl ?_))
          refine wl_nil ?_
          refine ex_seq ?_
          refine cw_split rfl (fun c6 => ?_) (fun c6 => ?_)
          · skip
            replace h := bt c6 h
            refine cw_region ?_
            refine wl_u rfl (ow_y (yh_move rfl rfl) rfl rfl (kk_wl ?_))
            refine wl_u rfl (ow_y (yh_loadBA Tb (k := 0) rfl rfl rfl rfl rfl rfl) rfl rfl (kk_wl ?_))
            refine wl_u rfl (ow_litA Tb rfl rfl rfl rfl rfl rfl (by decide) rfl rfl (fun g79 => kk_wl ?_))
            obtain ⟨hll80, h⟩ := bd_appd h
            refine wl_u rfl (ow_chg (c' := owC stepL Fs9 [.string x29.name, .slice as9 s9.length cs9, .bool x29.undo] (Step.mk x29.name s9 x29.undo)) 5 rfl (fun w hA => stepL_mk (Step.mk x29.name s9 x29.undo) hA) rfl (ow_appE Tb (i := 3) (j := 0) (k := 1) rfl rfl rfl rfl rfl rfl rfl rfl rfl rfl rfl (app1 hll80) (by decide) rfl rfl (fun a80 c80 F80 => kk_wl ?_)))
            refine wl_u rfl (ow_y (yh_assign rfl rfl) rfl rfl (kk_wl ?_))
            refine wl_nil ?_
            refine ex_block_normal ?_
            refine ex_seq ?_
            refine cw_region ?_
            refine wl_u rfl (ow_y (yh_move rfl rfl) rfl rfl (kk_wl ?_))
            refine wl_u rfl (ow_y (yh_arI rfl rfl rfl rfl (by omega)) rfl rfl (kk_wl ?_))
            refine wl_u rfl (ow_y (yh_assign rfl rfl) rfl rfl (kk_wl ?_))
            refine wl_nil ?_
            exact ex_next [0, 3] (hn6 (n6, (s5 ++ [(Step.mk x29.name s9 x29.undo)]), s7 + 1, a80, c80, F80) (Nat.lt_succ_self _) h) ⟨rfl, rfl, rfl, rfl, rfl, trivial⟩ (by kernel_rfl)
          · skip
            replace h := bf c6 h
            refine cw_skip ?_
            refine ex_block_normal ?_
            refine ex_seq ?_
            refine cw_region ?_
            refine wl_u rfl (ow_y (yh_move rfl rfl) rfl rfl (kk_wl ?_))
            refine wl_u rfl (ow_y (yh_arI rfl rfl rfl rfl (by omega)) rfl rfl (kk_wl ?_))
            refine wl_u rfl (ow_y (yh_assign rfl rfl) rfl rfl (kk_wl ?_))
            refine wl_nil ?_
            exact ex_next [1, 2] (hn6 (n6, s5, s7 + 1, as5, cs5, Fs5) (Nat.lt_succ_self _) h) ⟨rfl, rfl, rfl, rfl, rfl, trivial⟩ (by kernel_rfl)
    · skip
      replace h := bf c2 h
      have q7 := leb_false.1 c2
      refine cw_skip ?_
      refine ex_seq ?_
      refine cw_seq ?_
      refine cw_region ?_
      refine wl_u rfl (ow_y (yh_field Tb rfl rfl rfl) rfl rfl (kk_wl ?_))
      refine wl_u rfl (ow_y (yh_loadB Tb (k := 0) rfl rfl rfl rfl rfl) rfl rfl (kk_wl ?_))
      refine wl_u rfl (ow_y (yh_move rfl rfl) rfl rfl (kk_wl ?_))
      refine wl_u rfl (ow_y (yh_cmpS rfl rfl rfl rfl) rfl rfl (kk_wl ?_))
      refine wl_nil ?_
      refine ex_seq ?_
      refine cw_split rfl (fun c7 => ?_) (fun c7 => ?_)
      · skip
        replace h := bt c7 h
        refine cw_region ?_
        refine wl_u rfl (ow_y (yh_move rfl rfl) rfl rfl (kk_wl ?_))
        refine wl_u rfl (ow_y (yh_loadBA Tb (k := 0) rfl rfl rfl rfl rfl rfl) rfl rfl (kk_wl ?_))
        refine wl_u rfl (ow_litA Tb rfl rfl rfl rfl rfl rfl (by decide) rfl rfl (fun g79 => kk_wl ?_))
        obtain ⟨hll80, h⟩ := bd_appd h
        refine wl_u rfl (ow_chg (c' := owC stepL F29 [.string x29.name, .slice a29 x29.after.length c29, .bool x29.undo] x29) 2 rfl (fun w hA => stepL_mk x29 hA) rfl (ow_appE Tb (i := 3) (j := 0) (k := 1) rfl rfl rfl rfl rfl rfl rfl rfl rfl rfl rfl (app1 hll80) (by decide) rfl rfl (fun a80 c80 F80 => kk_wl ?_)))
        refine wl_u rfl (ow_y (yh_assign rfl rfl) rfl rfl (kk_wl ?_))
        refine wl_nil ?_
        refine ex_block_normal ?_
        refine ex_seq ?_
        refine cw_region ?_
        refine wl_u rfl (ow_y (yh_move rfl rfl) rfl rfl (kk_wl ?_))
        refine wl_u rfl (ow_y (yh_arI rfl rfl rfl rfl (by omega)) rfl rfl (kk_wl ?_))
        refine wl_u rfl (ow_y (yh_assign rfl rfl) rfl rfl (kk_wl ?_))
        refine wl_nil ?_
        exact ex_next [0, 3] (hn6 (n6, (s5 ++ [x29]), s7 + 1, a80, c80, F80) (Nat.lt_succ_self _) h) ⟨rfl, rfl, rfl, rfl, rfl, trivial⟩ (by kernel_rfl)
      · skip
        replace h := bf c7 h
        refine cw_skip ?_
        refine ex_block_normal ?_
        refine ex_seq ?_
        refine cw_region ?_
        refine wl_u rfl (ow_y (yh_move rfl rfl) rfl rfl (kk_wl ?_))
        refine wl_u rfl (ow_y (yh_arI rfl rfl rfl rfl (by omega)) rfl rfl (kk_wl ?_))
        refine wl_u rfl (ow_y (yh_assign rfl rfl) rfl rfl (kk_wl ?_))
        refine wl_nil ?_
        exact ex_next [2, 3] (hn6 (n6, s5, s7 + 1, as5, cs5, Fs5) (Nat.lt_succ_self _) h) ⟨rfl, rfl, rfl, rfl, rfl, trivial⟩ (by kernel_rfl)
  · skip
    replace h := bf c1 h
    have q8 := ltb_false.1 c1
    refine cw_exit ?_
    refine ex_then_exit ?_
    refine ex_then_exit ?_
    obtain rfl := Option.some.inj h
    have h := go_brk hk6
    refine ex_block_exit ?_
    refine ex_seq ?_
    refine cw_seq ?_
    refine cw_region ?_
    refine wl_u rfl (ow_y (yh_move rfl rfl) rfl rfl (kk_wl ?_))
    refine wl_u rfl (ow_y (yh_assign rfl rfl) rfl rfl (kk_wl ?_))
    refine wl_nil ?_
    refine ex_seq ?_
    refine cw_ret ?_
    obtain rfl := Option.some.inj h
    exact ex_r1 Tb rfl (.tmp rfl) (fun wq hq => ⟨_, rfl, hq.ext, ⟨as5, cs5, Fs5, rfl, NewC.sel [0] hq rfl⟩⟩)

def m_spec_l12Steps (N : Nat) (u0 : List Step) (u1 : Change) : Option (List Step × Bool) := (m_spec_l2At N u0 u1.step.name).bind fun x11 => ((bif eqb u1.kind 1 then some (ltb x11 0)
 else some false) : Option (Bool)).bind fun j104 => (bif j104 then (m_spec_l12With N u0 u1.step).bind fun x23 => some (x23, true)
 else ((bif eqb u1.kind 2 then some (leb 0 x11)
 else some false) : Option (Bool)).bind fun j106 => (bif j106 then (m_spec_l12Without N u0 u1.step.name).bind fun x36 => some (x36, true)
 else ((bif eqb u1.kind 3 then some (leb 0 x11)
 else some false) : Option (Bool)).bind fun j108 => (bif j108 then (geti u0 x11).bind fun y54 => (m_spec_l12With N u0 (Step.mk u1.step.name u1.step.after y54.undo)).bind fun x58 => some (x58, true)
 else ((bif eqb u1.kind 4 then some (leb 0 x11)
 else some false) : Option (Bool)).bind fun j111 => (bif j111 then (geti u0 x11).bind fun y73 => (m_spec_l12With N u0 (Step.mk u1.step.name y73.after u1.step.undo)).bind fun x80 => some (x80, true)
 else some (([] : List Step), false)))))

set_option maxHeartbeats 4000000 in
theorem c_spec_l12Steps (N : Nat) (u0 : List Step) (u1 : Change) (res : List Step × Bool) (h : m_spec_l12Steps N u0 u1 = some res) (w : World) {a_u0 a_u1_step_after : Option Addr} {c_u0 c_u1_step_after : Nat} (h_u0 : stepsL.rd w [] [.slice a_u0 u0.length c_u0] u0) (h_u1_step_after : strsL.rd w [] [.slice a_u1_step_after u1.step.after.length c_u1_step_after] u1.step.after) : Ret Try.prog 129 [.slice a_u0 u0.length c_u0, .agg #[.int .i64 u1.kind, .string u1.step.name, .slice a_u1_step_after u1.step.after.length c_u1_step_after, .bool u1.step.undo]] w [] fun v w' => ∃ a1 c1 F1, v = .tuple #[.slice a1 res.1.length c1, .bool res.2] ∧ NewC w w' [owC stepsL F1 [.slice a1 res.1.length c1] res.1] := by
  have mh_u0 := rd_max h_u0
  have mh_u1_step_after := rd_max h_u1_step_after
  unfold m_spec_l12Steps at h
  refine ret_enter Try.func129 rfl Try.ntmps129 rfl (Hp.refl w _) ?_
  refine cw_seq ?_
  refine cw_region ?_
  refine wl_u rfl (ow_boxA rfl rfl rfl rfl (fun g3 => kk_wl ?_))
  refine wl_u rfl (ow_y (yh_assign rfl rfl) rfl rfl (kk_wl ?_))
  refine wl_u rfl (ow_y (yh_assign rfl rfl) rfl rfl (kk_wl ?_))
  refine wl_nil ?_
  refine ex_seq ?_
  refine cw_seq ?_
  refine cw_region ?_
  refine wl_u rfl (ow_y (yh_move rfl rfl) rfl rfl (kk_wl ?_))
  refine wl_u rfl (ow_y (yh_field Tb rfl rfl rfl) rfl rfl (kk_wl ?_))
  refine wl_u rfl (ow_y (yh_field Tb rfl rfl rfl) rfl rfl (kk_wl ?_))
  refine wl_u rfl (ow_y (yh_loadB Tb (k := 0) rfl rfl rfl rfl rfl) rfl rfl (kk_wl ?_))
  obtain ⟨x11, hx11, h⟩ := bd h
  refine wl_u rfl (ow_cV rfl hb80 rfl (fun w hw => c_spec_l2At N _ _ _ hx11 w (Lay.at_ h_u0 hw)) rfl rfl (kk_wl ?_))
  refine wl_u rfl (ow_y (yh_assign rfl rfl) rfl rfl (kk_wl ?_))
  refine wl_nil ?_
  refine ex_seq ?_
  refine cw_seq ?_
  refine cw_block ?_
  obtain ⟨j104, he104, hk104⟩ := bd h
  clear h
  refine cw_cut (σ := Unit) (fun s => True) (fun s => [(0, .slice a_u0 u0.length c_u0), (3, .pointer (some ⟨g3, 0, none⟩)), (6, .int .i64 x11), (12, .bool j104)]) (fun s => [blkC g3 125 [.int .i64 u1.kind, .string u1.step.name, .slice a_u1_step_after u1.step.after.length c_u1_step_after, .bool u1.step.undo]]) (fun s hI => ?_) (fun KL hn104 => ?_)
  · skip
    have h := hk104
    refine cw_split rfl (fun c1 => ?_) (fun c1 => ?_)
    · skip
      replace h := bt c1 h
      refine cw_seq ?_
      refine cw_region ?_
      refine wl_u rfl (ow_y (yh_move rfl rfl) rfl rfl (kk_wl ?_))
      refine wl_u rfl (ow_y (yh_field Tb rfl rfl rfl) rfl rfl (kk_wl ?_))
      refine wl_u rfl (ow_y (yh_loadBN Tb (k := 0) rfl rfl rfl rfl rfl rfl rfl) rfl rfl (kk_wl ?_))
      obtain ⟨x23, hx23, h⟩ := bd h
      refine wl_u rfl (ow_cN1 rfl hb136 rfl (fun w hw => c_spec_l12With N _ _ _ hx23 w (Lay.at_ h_u0 hw) (Lay.at_ h_u1_step_after hw)) rfl rfl (fun a23 c23 F23 => kk_wl ?_))
      refine wl_u rfl (ow_y (yh_assign rfl rfl) rfl rfl (kk_wl ?_))
      refine wl_u rfl (ow_y (yh_assign rfl rfl) rfl rfl (kk_wl ?_))
      refine wl_nil ?_
      refine ex_seq ?_
      refine cw_ret ?_
      refine ex_block_ret ?_
      refine ex_then_ret ?_
      obtain rfl := Option.some.inj h
      exact ex_r2 Tb rfl (.tmp rfl) (.tmp rfl) (fun wq hq => ⟨_, rfl, hq.ext, ⟨a23, c23, F23, rfl, NewC.sel [0] hq rfl⟩⟩)
    · skip
      replace h := bf c1 h
      obtain ⟨j106, he106, hk106⟩ := bd h
      clear h
      refine cw_cut (σ := Unit) (fun s => True) (fun s => [(0, .slice a_u0 u0.length c_u0), (3, .pointer (some ⟨g3, 0, none⟩)), (6, .int .i64 x11), (24, .bool j106)]) (fun s => [blkC g3 125 [.int .i64 u1.kind, .string u1.step.name, .slice a_u1_step_after u1.step.after.length c_u1_step_after, .bool u1.step.undo]]) (fun s hI => ?_) (fun KL hn106 => ?_)
      · skip
        have h := hk106
        refine cw_split rfl (fun c2 => ?_) (fun c2 => ?_)
        · skip
          replace h := bt c2 h
          refine cw_seq ?_
          refine cw_region ?_
          refine wl_u rfl (ow_y (yh_move rfl rfl) rfl rfl (kk_wl ?_))
          refine wl_u rfl (ow_y (yh_field Tb rfl rfl rfl) rfl rfl (kk_wl ?_))
          refine wl_u rfl (ow_y (yh_field Tb rfl rfl rfl) rfl rfl (kk_wl ?_))
          refine wl_u rfl (ow_y (yh_loadB Tb (k := 0) rfl rfl rfl rfl rfl) rfl rfl (kk_wl ?_))
          obtain ⟨x36, hx36, h⟩ := bd h
          refine wl_u rfl (ow_cN1 rfl hb137 rfl (fun w hw => c_spec_l12Without N _ _ _ hx36 w (Lay.at_ h_u0 hw)) rfl rfl (fun a36 c36 F36 => kk_wl ?_))
          refine wl_u rfl (ow_y (yh_assign rfl rfl) rfl rfl (kk_wl ?_))
          refine wl_u rfl (ow_y (yh_assign rfl rfl) rfl rfl (kk_wl ?_))
          refine wl_nil ?_
          refine ex_seq ?_
          refine cw_ret ?_
          refine ex_block_ret ?_
          refine ex_then_ret ?_
          obtain rfl := Option.some.inj h
          exact ex_r2 Tb rfl (.tmp rfl) (.tmp rfl) (fun wq hq => ⟨_, rfl, hq.ext, ⟨a36, c36, F36, rfl, NewC.sel [0] hq rfl⟩⟩)
        · skip
          replace h := bf c2 h
          obtain ⟨j108, he108, hk108⟩ := bd h
          clear h
          refine cw_cut (σ := Unit) (fun s => True) (fun s => [(0, .slice a_u0 u0.length c_u0), (3, .pointer (some ⟨g3, 0, none⟩)), (6, .int .i64 x11), (37, .bool j108)]) (fun s => [blkC g3 125 [.int .i64 u1.kind, .string u1.step.name, .slice a_u1_step_after u1.step.after.length c_u1_step_after, .bool u1.step.undo]]) (fun s hI => ?_) (fun KL hn108 => ?_)
          · skip
            have h := hk108
            refine cw_split rfl (fun c3 => ?_) (fun c3 => ?_)
            · skip
              replace h := bt c3 h
              refine cw_seq ?_
              refine cw_dr [0, 1, 2, 3, 4, 5, 6, 7, 8, 9, 10, 11, 12, 14, 15] [] [blkC g3 125 [.int .i64 u1.kind, .string u1.step.name, .slice a_u1_step_after u1.step.after.length c_u1_step_after, .bool u1.step.undo]] (by kernel_rfl) ?_
              refine wd_take (i := 0) [0] rfl rfl rfl rfl rfl (by kernel_rfl) (by kernel_rfl) (fun _ _ _ _ h => h) (yh_move rfl rfl) ?_
              refine wd_take (i := 1) [0] rfl rfl rfl rfl rfl (by kernel_rfl) (by kernel_rfl) (fun _ _ _ _ h => h) (yh_field Tb rfl rfl rfl) ?_
              refine wd_take (i := 2) [0] rfl rfl rfl rfl rfl (by kernel_rfl) (by kernel_rfl) (fun _ _ _ _ h => h) (yh_field Tb rfl rfl rfl) ?_
              refine wd_take (i := 3) [0] rfl rfl rfl rfl rfl (by kernel_rfl) (by kernel_rfl) (fun _ _ _ _ h => h) (yh_loadB Tb (k := 0) rfl rfl rfl rfl rfl) ?_
              refine wd_take (i := 4) [0] rfl rfl rfl rfl rfl (by kernel_rfl) (by kernel_rfl) (fun _ _ _ _ h => h) (yh_field Tb rfl rfl rfl) ?_
              refine wd_take (i := 5) [0] rfl rfl rfl rfl rfl (by kernel_rfl) (by kernel_rfl) (fun _ _ _ _ h => h) (yh_field Tb rfl rfl rfl) ?_
              refine wd_take (i := 6) [0] rfl rfl rfl rfl rfl (by kernel_rfl) (by kernel_rfl) (fun _ _ _ _ h => h) (yh_loadB Tb (k := 0) rfl rfl rfl rfl rfl) ?_
              refine wd_take (i := 7) [0] rfl rfl rfl rfl rfl (by kernel_rfl) (by kernel_rfl) (fun _ _ _ _ h => h) (yh_move rfl rfl) ?_
              refine wd_take (i := 8) [0] rfl rfl rfl rfl rfl (by kernel_rfl) (by kernel_rfl) (fun _ _ _ _ h => h) (yh_move rfl rfl) ?_
              obtain ⟨y54, zy54, h⟩ := bd h
              obtain ⟨iy54, hy54⟩ := geti_some zy54
              obtain ⟨b54, o54, ha54⟩ := sl_addr h_u0 hy54
              subst ha54
              obtain ⟨a54, e54, hc54, hf54⟩ := get_step h_u0 hy54
              have mx54 := rd_max hf54
              refine wd_take (i := 9) [0] rfl rfl rfl rfl rfl (by kernel_rfl) (by kernel_rfl) (fun _ _ _ _ h => h) (yh_idx Tb (k := x11.toNat) rfl rfl rfl iy54 (get_lt hy54) rfl rfl) ?_
              refine wd_take (i := 10) [0] rfl rfl rfl rfl rfl (by kernel_rfl) (by kernel_rfl) (fun _ _ _ _ h => h) (yh_field Tb rfl rfl rfl) ?_
              refine wd_take (i := 11) [0] rfl rfl rfl rfl rfl (by kernel_rfl) (by kernel_rfl) (fun _ _ _ _ h => h) (yh_loadAF Tb (j := 2) rfl rfl rfl hc54 rfl) ?_
              refine wd_take (i := 12) [0] rfl rfl rfl rfl rfl (by kernel_rfl) (by kernel_rfl) (fun _ _ _ _ h => h) (yh_buildA rfl rfl (by kernel_rfl)) ?_
              obtain ⟨x58, hx58, h⟩ := bd h
              refine wd_one 13 rfl rfl (by kernel_rfl) (ow_cN1 rfl hb136 rfl (fun w hw => c_spec_l12With N _ _ _ hx58 w (Lay.at_ h_u0 hw) (Lay.at_ h_u1_step_after hw)) rfl rfl (fun a58 c58 F58 => kk_wd [1] (by kernel_rfl) ?_))
              refine wd_take (i := 14) [1] rfl rfl rfl rfl rfl (by kernel_rfl) (by kernel_rfl) (fun _ _ _ _ h => h) (yh_assign rfl rfl) ?_
              refine wd_take (i := 15) [1] rfl rfl rfl rfl rfl (by kernel_rfl) (by kernel_rfl) (fun _ _ _ _ h => h) (yh_assign rfl rfl) ?_
              refine wd_done (by kernel_rfl) ?_
              refine ex_seq ?_
              refine cw_ret ?_
              refine ex_block_ret ?_
              refine ex_then_ret ?_
              obtain rfl := Option.some.inj h
              exact ex_r2 Tb rfl (.tmp rfl) (.tmp rfl) (fun wq hq => ⟨_, rfl, hq.ext, ⟨a58, c58, F58, rfl, NewC.sel [0] hq rfl⟩⟩)
            · skip
              replace h := bf c3 h
              obtain ⟨j111, he111, hk111⟩ := bd h
              clear h
              refine cw_cut (σ := Unit) (fun s => True) (fun s => [(0, .slice a_u0 u0.length c_u0), (3, .pointer (some ⟨g3, 0, none⟩)), (6, .int .i64 x11), (59, .bool j111)]) (fun s => [blkC g3 125 [.int .i64 u1.kind, .string u1.step.name, .slice a_u1_step_after u1.step.after.length c_u1_step_after, .bool u1.step.undo]]) (fun s hI => ?_) (fun KL hn111 => ?_)
              · skip
                have h := hk111
                refine cw_split rfl (fun c4 => ?_) (fun c4 => ?_)
                · skip
                  replace h := bt c4 h
                  refine cw_seq ?_
                  refine cw_dr [0, 1, 2, 3, 4, 5, 6, 7, 8, 9, 10, 11, 12, 14, 15] [] [blkC g3 125 [.int .i64 u1.kind, .string u1.step.name, .slice a_u1_step_after u1.step.after.length c_u1_step_after, .bool u1.step.undo]] (by kernel_rfl) ?_
                  refine wd_take (i := 0) [0] rfl rfl rfl rfl rfl (by kernel_rfl) (by kernel_rfl) (fun _ _ _ _ h => h) (yh_move rfl rfl) ?_
                  refine wd_take (i := 1) [0] rfl rfl rfl rfl rfl (by kernel_rfl) (by kernel_rfl) (fun _ _ _ _ h => h) (yh_field Tb rfl rfl rfl) ?_
                  refine wd_take (i := 2) [0] rfl rfl rfl rfl rfl (by kernel_rfl) (by kernel_rfl) (fun _ _ _ _ h => h) (yh_field Tb rfl rfl rfl) ?_
                  refine wd_take (i := 3) [0] rfl rfl rfl rfl rfl (by kernel_rfl) (by kernel_rfl) (fun _ _ _ _ h => h) (yh_loadB Tb (k := 0) rfl rfl rfl rfl rfl) ?_
                  refine wd_take (i := 4) [0] rfl rfl rfl rfl rfl (by kernel_rfl) (by kernel_rfl) (fun _ _ _ _ h => h) (yh_move rfl rfl) ?_
                  refine wd_take (i := 5) [0] rfl rfl rfl rfl rfl (by kernel_rfl) (by kernel_rfl) (fun _ _ _ _ h => h) (yh_move rfl rfl) ?_
                  obtain ⟨y73, zy73, h⟩ := bd h
                  obtain ⟨iy73, hy73⟩ := geti_some zy73
                  obtain ⟨b73, o73, ha73⟩ := sl_addr h_u0 hy73
                  subst ha73
                  obtain ⟨a73, e73, hc73, hf73⟩ := get_step h_u0 hy73
                  have mx73 := rd_max hf73
                  refine wd_take (i := 6) [0] rfl rfl rfl rfl rfl (by kernel_rfl) (by kernel_rfl) (fun _ _ _ _ h => h) (yh_idx Tb (k := x11.toNat) rfl rfl rfl iy73 (get_lt hy73) rfl rfl) ?_
                  refine wd_take (i := 7) [0] rfl rfl rfl rfl rfl (by kernel_rfl) (by kernel_rfl) (fun _ _ _ _ h => h) (yh_field Tb rfl rfl rfl) ?_
                  refine wd_take (i := 8) [0] rfl rfl rfl rfl rfl (by kernel_rfl) (by kernel_rfl) (fun _ _ _ _ h => h) (yh_loadAF Tb (j := 1) rfl rfl rfl hc73 rfl) ?_
                  refine wd_take (i := 9) [0] rfl rfl rfl rfl rfl (by kernel_rfl) (by kernel_rfl) (fun _ _ _ _ h => h) (yh_field Tb rfl rfl rfl) ?_
                  refine wd_take (i := 10) [0] rfl rfl rfl rfl rfl (by kernel_rfl) (by kernel_rfl) (fun _ _ _ _ h => h) (yh_field Tb rfl rfl rfl) ?_
                  refine wd_take (i := 11) [0] rfl rfl rfl rfl rfl (by kernel_rfl) (by kernel_rfl) (fun _ _ _ _ h => h) (yh_loadB Tb (k := 0) rfl rfl rfl rfl rfl) ?_
                  refine wd_take (i := 12) [0] rfl rfl rfl rfl rfl (by kernel_rfl) (by kernel_rfl) (fun _ _ _ _ h => h) (yh_buildA rfl rfl (by kernel_rfl)) ?_
                  obtain ⟨x80, hx80, h⟩ := bd h
                  refine wd_one 13 rfl rfl (by kernel_rfl) (ow_cN1 rfl hb136 rfl (fun w hw => c_spec_l12With N _ _ _ hx80 w (Lay.at_ h_u0 hw) (Lay.at_ hf73 hw)) rfl rfl (fun a80 c80 F80 => kk_wd [1] (by kernel_rfl) ?_))
                  refine wd_take (i := 14) [1] rfl rfl rfl rfl rfl (by kernel_rfl) (by kernel_rfl) (fun _ _ _ _ h => h) (yh_assign rfl rfl) ?_
                  refine wd_take (i := 15) [1] rfl rfl rfl rfl rfl (by kernel_rfl) (by kernel_rfl) (fun _ _ _ _ h => h) (yh_assign rfl rfl) ?_
                  refine wd_done (by kernel_rfl) ?_
                  refine ex_seq ?_
                  refine cw_ret ?_
                  refine ex_block_ret ?_
                  refine ex_then_ret ?_
                  obtain rfl := Option.some.inj h
                  exact ex_r2 Tb rfl (.tmp rfl) (.tmp rfl) (fun wq hq => ⟨_, rfl, hq.ext, ⟨a80, c80, F80, rfl, NewC.sel [0] hq rfl⟩⟩)
                · skip
                  replace h := bf c4 h
                  refine cw_skip ?_
                  refine ex_block_normal ?_
                  refine ex_seq ?_
                  refine cw_seq ?_
                  refine cw_region ?_
                  refine wl_u rfl (ow_lit0 Tb rfl rfl rfl rfl rfl rfl (fun g81 => kk_chg (c' := owC stepsL [g81] [.slice (some ⟨g81, 0, none⟩) 0 0] ([] : List Step)) 0 rfl (fun w hA => own_stepsL ([] : List Step) hA rfl (by simp [maxLen])) rfl (kk_wl ?_)))
                  refine wl_u rfl (ow_y (yh_assign rfl rfl) rfl rfl (kk_wl ?_))
                  refine wl_u rfl (ow_y (yh_assign rfl rfl) rfl rfl (kk_wl ?_))
                  refine wl_nil ?_
                  refine ex_seq ?_
                  refine cw_ret ?_
                  obtain rfl := Option.some.inj h
                  exact ex_r2 Tb rfl (.tmp rfl) (.tmp rfl) (fun wq hq => ⟨_, rfl, hq.ext, ⟨(some ⟨g81, 0, none⟩), 0, [g81], rfl, NewC.sel [0] hq rfl⟩⟩)
              · skip
                have h := he111
                refine cw_region ?_
                refine wl_u rfl (ow_y (yh_field Tb rfl rfl rfl) rfl rfl (kk_wl ?_))
                refine wl_u rfl (ow_y (yh_loadB Tb (k := 0) rfl rfl rfl rfl rfl) rfl rfl (kk_wl ?_))
                refine wl_u rfl (ow_y (yh_cmpI rfl rfl rfl rfl) rfl rfl (kk_wl ?_))
                refine wl_u rfl (ow_y (yh_move rfl rfl) rfl rfl (kk_wl ?_))
                refine wl_s rfl rfl (fun c5 => ?_) (fun c5 => ?_)
                · skip
                  replace h := bt c5 h
                  have q1 := eqb_true.1 c5
                  refine wl_g rfl rfl (ow_y (yh_move rfl rfl) rfl rfl (kk_wl ?_))
                  refine wl_g rfl rfl (ow_y (yh_cmpI rfl rfl rfl rfl) rfl rfl (kk_wl ?_))
                  refine wl_u rfl (ow_y (yh_pickT rfl rfl rfl) rfl rfl (kk_wl ?_))
                  refine wl_u rfl (ow_y (yh_assign rfl rfl) rfl rfl (kk_wl ?_))
                  refine wl_nil ?_
                  obtain rfl := Option.some.inj h
                  exact ex_next [0] (hn111 () trivial) ⟨rfl, rfl, rfl, rfl, trivial⟩ (by kernel_rfl)
                · skip
                  replace h := bf c5 h
                  have q2 := eqb_false.1 c5
                  refine wl_n rfl rfl rfl rfl ?_
                  refine wl_n rfl rfl rfl rfl ?_
                  refine wl_u rfl (ow_y (yh_pickF rfl rfl rfl) rfl rfl (kk_wl ?_))
                  refine wl_u rfl (ow_y (yh_assign rfl rfl) rfl rfl (kk_wl ?_))
                  refine wl_nil ?_
                  obtain rfl := Option.some.inj h
                  exact ex_next [0] (hn111 () trivial) ⟨rfl, rfl, rfl, rfl, trivial⟩ (by kernel_rfl)
          · skip
            have h := he108
            refine cw_region ?_
            refine wl_u rfl (ow_y (yh_field Tb rfl rfl rfl) rfl rfl (kk_wl ?_))
            refine wl_u rfl (ow_y (yh_loadB Tb (k := 0) rfl rfl rfl rfl rfl) rfl rfl (kk_wl ?_))
            refine wl_u rfl (ow_y (yh_cmpI rfl rfl rfl rfl) rfl rfl (kk_wl ?_))
            refine wl_u rfl (ow_y (yh_move rfl rfl) rfl rfl (kk_wl ?_))
            refine wl_s rfl rfl (fun c6 => ?_) (fun c6 => ?_)
            · skip
              replace h := bt c6 h
              have q3 := eqb_true.1 c6
              refine wl_g rfl rfl (ow_y (yh_move rfl rfl) rfl rfl (kk_wl ?_))
              refine wl_g rfl rfl (ow_y (yh_cmpI rfl rfl rfl rfl) rfl rfl (kk_wl ?_))
              refine wl_u rfl (ow_y (yh_pickT rfl rfl rfl) rfl rfl (kk_wl ?_))
              refine wl_u rfl (ow_y (yh_assign rfl rfl) rfl rfl (kk_wl ?_))
              refine wl_nil ?_
              obtain rfl := Option.some.inj h
              exact ex_next [0] (hn108 () trivial) ⟨rfl, rfl, rfl, rfl, trivial⟩ (by kernel_rfl)
            · skip
              replace h := bf c6 h
              have q4 := eqb_false.1 c6
              refine wl_n rfl rfl rfl rfl ?_
              refine wl_n rfl rfl rfl rfl ?_
              refine wl_u rfl (ow_y (yh_pickF rfl rfl rfl) rfl rfl (kk_wl ?_))
              refine wl_u rfl (ow_y (yh_assign rfl rfl) rfl rfl (kk_wl ?_))
              refine wl_nil ?_
              obtain rfl := Option.some.inj h
              exact ex_next [0] (hn108 () trivial) ⟨rfl, rfl, rfl, rfl, trivial⟩ (by kernel_rfl)
      · skip
        have h := he106
        refine cw_region ?_
        refine wl_u rfl (ow_y (yh_field Tb rfl rfl rfl) rfl rfl (kk_wl ?_))
        refine wl_u rfl (ow_y (yh_loadB Tb (k := 0) rfl rfl rfl rfl rfl) rfl rfl (kk_wl ?_))
        refine wl_u rfl (ow_y (yh_cmpI rfl rfl rfl rfl) rfl rfl (kk_wl ?_))
        refine wl_u rfl (ow_y (yh_move rfl rfl) rfl rfl (kk_wl ?_))
        refine wl_s rfl rfl (fun c7 => ?_) (fun c7 => ?_)
        · skip
          replace h := bt c7 h
          have q5 := eqb_true.1 c7
          refine wl_g rfl rfl (ow_y (yh_move rfl rfl) rfl rfl (kk_wl ?_))
          refine wl_g rfl rfl (ow_y (yh_cmpI rfl rfl rfl rfl) rfl rfl (kk_wl ?_))
          refine wl_u rfl (ow_y (yh_pickT rfl rfl rfl) rfl rfl (kk_wl ?_))
          refine wl_u rfl (ow_y (yh_assign rfl rfl) rfl rfl (kk_wl ?_))
          refine wl_nil ?_
          obtain rfl := Option.some.inj h
          exact ex_next [0] (hn106 () trivial) ⟨rfl, rfl, rfl, rfl, trivial⟩ (by kernel_rfl)
        · skip
          replace h := bf c7 h
          have q6 := eqb_false.1 c7
          refine wl_n rfl rfl rfl rfl ?_
          refine wl_n rfl rfl rfl rfl ?_
          refine wl_u rfl (ow_y (yh_pickF rfl rfl rfl) rfl rfl (kk_wl ?_))
          refine wl_u rfl (ow_y (yh_assign rfl rfl) rfl rfl (kk_wl ?_))
          refine wl_nil ?_
          obtain rfl := Option.some.inj h
          exact ex_next [0] (hn106 () trivial) ⟨rfl, rfl, rfl, rfl, trivial⟩ (by kernel_rfl)
  · skip
    have h := he104
    refine cw_region ?_
    refine wl_u rfl (ow_y (yh_field Tb rfl rfl rfl) rfl rfl (kk_wl ?_))
    refine wl_u rfl (ow_y (yh_loadB Tb (k := 0) rfl rfl rfl rfl rfl) rfl rfl (kk_wl ?_))
    refine wl_u rfl (ow_y (yh_cmpI rfl rfl rfl rfl) rfl rfl (kk_wl ?_))
    refine wl_u rfl (ow_y (yh_move rfl rfl) rfl rfl (kk_wl ?_))
    refine wl_s rfl rfl (fun c8 => ?_) (fun c8 => ?_)
    · skip
      replace h := bt c8 h
      have q7 := eqb_true.1 c8
      refine wl_g rfl rfl (ow_y (yh_move rfl rfl) rfl rfl (kk_wl ?_))
      refine wl_g rfl rfl (ow_y (yh_cmpI rfl rfl rfl rfl) rfl rfl (kk_wl ?_))
      refine wl_u rfl (ow_y (yh_pickT rfl rfl rfl) rfl rfl (kk_wl ?_))
      refine wl_u rfl (ow_y (yh_assign rfl rfl) rfl rfl (kk_wl ?_))
      refine wl_nil ?_
      obtain rfl := Option.some.inj h
      exact ex_next [0] (hn104 () trivial) ⟨rfl, rfl, rfl, rfl, trivial⟩ (by kernel_rfl)
    · skip
      replace h := bf c8 h
      have q8 := eqb_false.1 c8
      refine wl_n rfl rfl rfl rfl ?_
      refine wl_n rfl rfl rfl rfl ?_
      refine wl_u rfl (ow_y (yh_pickF rfl rfl rfl) rfl rfl (kk_wl ?_))
      refine wl_u rfl (ow_y (yh_assign rfl rfl) rfl rfl (kk_wl ?_))
      refine wl_nil ?_
      obtain rfl := Option.some.inj h
      exact ex_next [0] (hn104 () trivial) ⟨rfl, rfl, rfl, rfl, trivial⟩ (by kernel_rfl)

def m_spec_FlowChange (N : Nat) (f : Flow) (c : Change) : Option (Flow × Bool) := (m_spec_FlowValid N f).bind fun x10 => (bif !x10 then some ((Flow.mk 0 []), false)
 else (m_spec_StepValid N c.step).bind fun x15 => (bif !x15 then some ((Flow.mk 0 []), false)
 else (m_spec_l12Steps N f.steps c).bind fun x23 => (bif !x23.2 then some ((Flow.mk 0 []), false)
 else (m_spec_FlowValid N (Flow.mk (w64 (f.ver + 1)) x23.1)).bind fun x35 => (bif !x35 then some ((Flow.mk 0 []), false)
 else some ((Flow.mk (w64 (f.ver + 1)) x23.1), true)))))

set_option maxHeartbeats 4000000 in
theorem c_spec_FlowChange (N : Nat) (f : Flow) (c : Change) (res : Flow × Bool) (h : m_spec_FlowChange N f c = some res) (w : World) {a_c_step_after a_f_steps : Option Addr} {c_c_step_after c_f_steps : Nat} (h_f_steps : stepsL.rd w [] [.slice a_f_steps f.steps.length c_f_steps] f.steps) (h_c_step_after : strsL.rd w [] [.slice a_c_step_after c.step.after.length c_c_step_after] c.step.after) : Ret Try.prog 109 [.agg #[.int .i64 f.ver, .slice a_f_steps f.steps.length c_f_steps], .agg #[.int .i64 c.kind, .string c.step.name, .slice a_c_step_after c.step.after.length c_c_step_after, .bool c.step.undo]] w [] fun v w' => ∃ a1 c1 F1, v = .tuple #[.agg #[.int .i64 res.1.ver, .slice a1 res.1.steps.length c1], .bool res.2] ∧ NewC w w' [owC stepsL F1 [.slice a1 res.1.steps.length c1] res.1.steps] := by
  have mh_f_steps := rd_max h_f_steps
  have mh_c_step_after := rd_max h_c_step_after
  unfold m_spec_FlowChange at h
  refine ret_enter Try.func109 rfl Try.ntmps109 rfl (Hp.refl w _) ?_
  refine cw_seq ?_
  refine cw_region ?_
  refine wl_u rfl (ow_boxA rfl rfl rfl rfl (fun g2 => kk_wl ?_))
  refine wl_u rfl (ow_boxA rfl rfl rfl rfl (fun g3 => kk_wl ?_))
  refine wl_u rfl (ow_allocA Tb rfl rfl rfl rfl (fun g4 => kk_wl ?_))
  refine wl_u rfl (ow_y (yh_assign rfl rfl) rfl rfl (kk_wl ?_))
  refine wl_nil ?_
  refine ex_seq ?_
  refine cw_seq ?_
  refine cw_seq ?_
  refine cw_region ?_
  refine wl_u rfl (ow_y (yh_loadBA Tb (k := 2) rfl rfl rfl rfl rfl rfl) rfl rfl (kk_wl ?_))
  obtain ⟨x10, hx10, h⟩ := bd h
  refine wl_u rfl (ow_cV rfl hb63 rfl (fun w hw => c_spec_FlowValid N _ _ hx10 w (Lay.at_ h_f_steps hw)) rfl rfl (kk_wl ?_))
  refine wl_u rfl (ow_y (yh_not rfl rfl) rfl rfl (kk_wl ?_))
  refine wl_u rfl (ow_y (yh_move rfl rfl) rfl rfl (kk_wl ?_))
  refine wl_s rfl rfl (fun c1 => ?_) (fun c1 => ?_)
  · skip
    replace h := bt c1 h
    refine wl_n rfl rfl rfl rfl ?_
    refine wl_n rfl rfl rfl rfl ?_
    refine wl_n rfl rfl rfl rfl ?_
    refine wl_n rfl rfl rfl rfl ?_
    refine wl_u rfl (ow_y (yh_pickT rfl rfl rfl) rfl rfl (kk_wl ?_))
    refine wl_nil ?_
    refine ex_seq ?_
    refine cw_true rfl ?_
    refine cw_seq ?_
    refine cw_region ?_
    refine wl_u rfl (ow_y (yh_build [.int .i64 0, .slice none 0 0] rfl rfl (by kernel_rfl)) rfl rfl (kk_wl ?_))
    refine wl_u rfl (ow_storeA Tb (k := 0) rfl rfl rfl rfl rfl rfl rfl rfl rfl (kk_wl ?_))
    refine wl_u rfl (ow_y (yh_assign rfl rfl) rfl rfl (kk_wl ?_))
    refine wl_nil ?_
    refine ex_seq ?_
    refine cw_ret ?_
    refine ex_then_ret ?_
    refine ex_nilS stepsL rfl ?_
    obtain rfl := Option.some.inj h
    exact ex_r2 Tb rfl (.cellA 1 rfl rfl rfl rfl rfl) (.tmp rfl) (fun wq hq => ⟨_, rfl, hq.ext, ⟨none, 0, [], rfl, NewC.sel [0] hq rfl⟩⟩)
  · skip
    replace h := bf c1 h
    refine wl_g rfl rfl (ow_y (yh_field Tb rfl rfl rfl) rfl rfl (kk_wl ?_))
    refine wl_g rfl rfl (ow_y (yh_loadBN Tb (k := 1) rfl rfl rfl rfl rfl rfl rfl) rfl rfl (kk_wl ?_))
    obtain ⟨x15, hx15, h⟩ := bd h
    refine wl_g rfl rfl (ow_cV rfl hb101 rfl (fun w hw => c_spec_StepValid N _ _ hx15 w (Lay.at_ h_c_step_after hw)) rfl rfl (kk_wl ?_))
    refine wl_g rfl rfl (ow_y (yh_not rfl rfl) rfl rfl (kk_wl ?_))
    refine wl_u rfl (ow_y (yh_pickF rfl rfl rfl) rfl rfl (kk_wl ?_))
    refine wl_nil ?_
    refine ex_seq ?_
    refine cw_split rfl (fun c2 => ?_) (fun c2 => ?_)
    · skip
      replace h := bt c2 h
      refine cw_seq ?_
      refine cw_region ?_
      refine wl_u rfl (ow_y (yh_build [.int .i64 0, .slice none 0 0] rfl rfl (by kernel_rfl)) rfl rfl (kk_wl ?_))
      refine wl_u rfl (ow_storeA Tb (k := 0) rfl rfl rfl rfl rfl rfl rfl rfl rfl (kk_wl ?_))
      refine wl_u rfl (ow_y (yh_assign rfl rfl) rfl rfl (kk_wl ?_))
      refine wl_nil ?_
      refine ex_seq ?_
      refine cw_ret ?_
      refine ex_then_ret ?_
      refine ex_nilS stepsL rfl ?_
      obtain rfl := Option.some.inj h
      exact ex_r2 Tb rfl (.cellA 1 rfl rfl rfl rfl rfl) (.tmp rfl) (fun wq hq => ⟨_, rfl, hq.ext, ⟨none, 0, [], rfl, NewC.sel [0] hq rfl⟩⟩)
    · skip
      replace h := bf c2 h
      refine cw_skip ?_
      refine ex_seq ?_
      refine cw_seq ?_
      refine cw_region ?_
      refine wl_u rfl (ow_y (yh_field Tb rfl rfl rfl) rfl rfl (kk_wl ?_))
      refine wl_u rfl (ow_y (yh_loadB Tb (k := 2) rfl rfl rfl rfl rfl) rfl rfl (kk_wl ?_))
      refine wl_u rfl (ow_y (yh_loadBA Tb (k := 1) rfl rfl rfl rfl rfl rfl) rfl rfl (kk_wl ?_))
      obtain ⟨x23, hx23, h⟩ := bd h
      refine wl_u rfl (ow_cN1 rfl hb129 rfl (fun w hw => c_spec_l12Steps N _ _ _ hx23 w (Lay.at_ h_f_steps hw) (Lay.at_ h_c_step_after hw)) rfl rfl (fun a23 c23 F23 => kk_wl ?_))
      refine wl_u rfl (ow_y (yh_move rfl rfl) rfl rfl (kk_wl ?_))
      refine wl_u rfl (ow_y (yh_extract rfl rfl rfl) rfl rfl (kk_wl ?_))
      refine wl_u rfl (ow_y (yh_extract rfl rfl rfl) rfl rfl (kk_wl ?_))
      refine wl_u rfl (ow_y (yh_assign rfl rfl) rfl rfl (kk_wl ?_))
      refine wl_u rfl (ow_y (yh_assign rfl rfl) rfl rfl (kk_wl ?_))
      refine wl_nil ?_
      refine ex_seq ?_
      refine cw_seq ?_
      refine cw_region ?_
      refine wl_u rfl (ow_y (yh_field Tb rfl rfl rfl) rfl rfl (kk_wl ?_))
      refine wl_u rfl (ow_y (yh_loadB Tb (k := 3) rfl rfl rfl rfl rfl) rfl rfl (kk_wl ?_))
      refine wl_u rfl (ow_y (yh_arW rfl rfl rfl rfl) rfl rfl (kk_wl ?_))
      refine wl_u rfl (ow_y (yh_move rfl rfl) rfl rfl (kk_wl ?_))
      refine wl_u rfl (ow_y (yh_buildA rfl rfl (by kernel_rfl)) rfl rfl (kk_wl ?_))
      refine wl_u rfl (ow_allocA Tb rfl rfl rfl rfl (fun g8 => kk_wl ?_))
      refine wl_u rfl (ow_storeA Tb (k := 0) rfl rfl rfl rfl rfl rfl rfl rfl rfl (kk_wl ?_))
      refine wl_nil ?_
      refine ex_seq ?_
      refine cw_seq ?_
      refine cw_seq ?_
      refine cw_region ?_
      refine wl_u rfl (ow_y (yh_move rfl rfl) rfl rfl (kk_wl ?_))
      refine wl_u rfl (ow_y (yh_not rfl rfl) rfl rfl (kk_wl ?_))
      refine wl_u rfl (ow_y (yh_move rfl rfl) rfl rfl (kk_wl ?_))
      refine wl_s rfl rfl (fun c3 => ?_) (fun c3 => ?_)
      · skip
        replace h := bt c3 h
        refine wl_n rfl rfl rfl rfl ?_
        refine wl_n rfl rfl rfl rfl ?_
        refine wl_n rfl rfl rfl rfl ?_
        refine wl_u rfl (ow_y (yh_pickT rfl rfl rfl) rfl rfl (kk_wl ?_))
        refine wl_nil ?_
        refine ex_seq ?_
        refine cw_true rfl ?_
        refine cw_seq ?_
        refine cw_region ?_
        refine wl_u rfl (ow_y (yh_build [.int .i64 0, .slice none 0 0] rfl rfl (by kernel_rfl)) rfl rfl (kk_wl ?_))
        refine wl_u rfl (ow_storeA Tb (k := 2) rfl rfl rfl rfl rfl rfl rfl rfl rfl (kk_wl ?_))
        refine wl_u rfl (ow_y (yh_assign rfl rfl) rfl rfl (kk_wl ?_))
        refine wl_nil ?_
        refine ex_seq ?_
        refine cw_ret ?_
        refine ex_then_ret ?_
        refine ex_nilS stepsL rfl ?_
        obtain rfl := Option.some.inj h
        exact ex_r2 Tb rfl (.cellA 1 rfl rfl rfl rfl rfl) (.tmp rfl) (fun wq hq => ⟨_, rfl, hq.ext, ⟨none, 0, [], rfl, NewC.sel [0] hq rfl⟩⟩)
      · skip
        replace h := bf c3 h
        refine wl_g rfl rfl (ow_y (yh_loadBA Tb (k := 0) rfl rfl rfl rfl rfl rfl) rfl rfl (kk_wl ?_))
        obtain ⟨x35, hx35, h⟩ := bd h
        refine wl_g rfl rfl (ow_cV rfl hb63 rfl (fun w hw => c_spec_FlowValid N _ _ hx35 w (rdo (A := stepsL) 1 rfl hw)) rfl rfl (kk_wl ?_))
        refine wl_g rfl rfl (ow_y (yh_not rfl rfl) rfl rfl (kk_wl ?_))
        refine wl_u rfl (ow_y (yh_pickF rfl rfl rfl) rfl rfl (kk_wl ?_))
        refine wl_nil ?_
        refine ex_seq ?_
        refine cw_split rfl (fun c4 => ?_) (fun c4 => ?_)
        · skip
          replace h := bt c4 h
          refine cw_seq ?_
          refine cw_region ?_
          refine wl_u rfl (ow_y (yh_build [.int .i64 0, .slice none 0 0] rfl rfl (by kernel_rfl)) rfl rfl (kk_wl ?_))
          refine wl_u rfl (ow_storeA Tb (k := 2) rfl rfl rfl rfl rfl rfl rfl rfl rfl (kk_wl ?_))
          refine wl_u rfl (ow_y (yh_assign rfl rfl) rfl rfl (kk_wl ?_))
          refine wl_nil ?_
          refine ex_seq ?_
          refine cw_ret ?_
          refine ex_then_ret ?_
          refine ex_nilS stepsL rfl ?_
          obtain rfl := Option.some.inj h
          exact ex_r2 Tb rfl (.cellA 1 rfl rfl rfl rfl rfl) (.tmp rfl) (fun wq hq => ⟨_, rfl, hq.ext, ⟨none, 0, [], rfl, NewC.sel [0] hq rfl⟩⟩)
        · skip
          replace h := bf c4 h
          refine cw_skip ?_
          refine ex_seq ?_
          refine cw_seq ?_
          refine cw_region ?_
          refine wl_u rfl (ow_y (yh_loadBA Tb (k := 0) rfl rfl rfl rfl rfl rfl) rfl rfl (kk_wl ?_))
          refine wl_u rfl (ow_storeA Tb (k := 2) rfl rfl rfl rfl rfl rfl rfl rfl rfl (kk_wl ?_))
          refine wl_u rfl (ow_y (yh_assign rfl rfl) rfl rfl (kk_wl ?_))
          refine wl_nil ?_
          refine ex_seq ?_
          refine cw_ret ?_
          obtain rfl := Option.some.inj h
          exact ex_r2 Tb rfl (.cellA 0 rfl rfl rfl rfl rfl) (.tmp rfl) (fun wq hq => ⟨_, rfl, hq.ext, ⟨a23, c23, F23, rfl, NewC.sel [2] hq rfl⟩⟩)

def m_spec_l92Other_L11 (N : Nat) (cd : List UInt8) (x23 : (Int) × Nat) : Nat → Nat → Int → (List Step) → Nat → Option (Ex (Nat × Int × List Step × Nat) ((Flow) × Nat))
  | 0, _, _, _, _ => none
  | n + 1, s0_c_1, s5_c_0, s5_c_1, s7 => (bif ltb ((s7 : Nat) : Int) x23.1 then (m_spec_l92Change N cd s0_c_1 (Flow.mk s5_c_0 s5_c_1)).bind fun x33 => (m_spec_FlowChange N (Flow.mk s5_c_0 s5_c_1) x33.1).bind fun x34 => (bif x34.2 then m_spec_l92Other_L11 N cd x23 n x33.2 x34.1.ver x34.1.steps (s7 + 1)
 else m_spec_l92Other_L11 N cd x23 n x33.2 s5_c_0 s5_c_1 (s7 + 1))
 else some (Ex.brk (s0_c_1, s5_c_0, s5_c_1, s7)))

def m_spec_l92Other (N : Nat) (cd : List UInt8) (p : Nat) (f : Flow) : Option ((Flow) × Nat) := (m_spec_l6Rd_pick N cd p 3).bind fun x11 => (bif eqb x11.1 0 then (m_spec_l91Flow N cd x11.2).bind fun x19 => some (x19.1, x19.2)
 else (m_spec_FlowValid N f).bind fun x15 => (bif !x15 then (m_spec_l91Flow N cd x11.2).bind fun x19 => some (x19.1, x19.2)
 else (m_spec_l2Copy N f).bind fun x21 => (m_spec_l6Rd_pick N cd x11.2 3).bind fun x23 => (m_spec_l92Other_L11 N cd x23 N x23.2 x21.ver x21.steps 0).bind fun e11 => e11.go (fun r => r) fun b11 => some ((Flow.mk b11.2.1 b11.2.2.1), b11.1)))

set_option maxHeartbeats 4000000 in
theorem c_spec_l92Other (N : Nat) (cd : List UInt8) (p : Nat) (f : Flow) (res : (Flow) × Nat) (h : m_spec_l92Other N cd p f = some res) (w : World) {a_f_steps : Option Addr} {c_f_steps : Nat} {r ccd : Nat} {acd : Option Addr} (hr : (blkC r 113 [.slice acd cd.length ccd, .int .i64 ((p : Nat) : Int)]).A w) (hcd : bytesL.rd w [r] [.slice acd cd.length ccd] cd) (h_f_steps : stepsL.rd w [r] [.slice a_f_steps f.steps.length c_f_steps] f.steps) : Ret Try.prog 68 [.pointer (some ⟨r, 0, none⟩), .agg #[.int .i64 f.ver, .slice a_f_steps f.steps.length c_f_steps]] w [r] fun v w' => ∃ a1 c1 F1, v = .agg #[.int .i64 res.1.ver, .slice a1 res.1.steps.length c1] ∧ NewM w w' [r] [owC stepsL F1 [.slice a1 res.1.steps.length c1] res.1.steps, blkC r 113 [.slice acd cd.length ccd, .int .i64 ((res.2 : Nat) : Int)]] := by
  have mh_f_steps := rd_max h_f_steps
  have mhcd := rd_max hcd
  unfold m_spec_l92Other at h
  refine ret_enter Try.func68 rfl Try.ntmps68 rfl (hp_one hr (by simp [blkC])) ?_
  refine cw_seq ?_
  refine cw_region ?_
  refine wl_u rfl (ow_boxA rfl rfl rfl rfl (fun g3 => kk_wl ?_))
  refine wl_u rfl (ow_allocA Tb rfl rfl rfl rfl (fun g4 => kk_wl ?_))
  refine wl_nil ?_
  refine ex_seq ?_
  refine cw_seq ?_
  refine cw_seq ?_
  refine cw_region ?_
  refine wl_u rfl (ow_y (yh_move rfl rfl) rfl rfl (kk_wl ?_))
  obtain ⟨x11, hx11, h⟩ := bd h
  have mp11 := pick_lt hx11 (by decide)
  refine wl_u rfl (ow_cM0 2 rfl hb107 rfl rfl (fun w hw => c_spec_l6Rd_pick N _ _ _ _ hx11 w (hw.at (i := 2) rfl) (Lay.atR (i := 2) hcd rfl hw)) rfl rfl (kk_wl ?_))
  refine wl_u rfl (ow_y (yh_cmpI rfl rfl rfl rfl) rfl rfl (kk_wl ?_))
  refine wl_u rfl (ow_y (yh_move rfl rfl) rfl rfl (kk_wl ?_))
  refine wl_s rfl rfl (fun c1 => ?_) (fun c1 => ?_)
  · skip
    replace h := bt c1 h
    have q1 := eqb_true.1 c1
    refine wl_n rfl rfl rfl rfl ?_
    refine wl_n rfl rfl rfl rfl ?_
    refine wl_n rfl rfl rfl rfl ?_
    refine wl_u rfl (ow_y (yh_pickT rfl rfl rfl) rfl rfl (kk_wl ?_))
    refine wl_nil ?_
    refine ex_seq ?_
    refine cw_true rfl ?_
    refine cw_seq ?_
    refine cw_region ?_
    refine wl_u rfl (ow_y (yh_move rfl rfl) rfl rfl (kk_wl ?_))
    obtain ⟨x19, hx19, h⟩ := bd h
    refine wl_u rfl (ow_cM1 0 rfl hb69 rfl rfl (fun w hw => c_spec_l91Flow N _ _ _ hx19 w (hw.at (i := 0) rfl) (Lay.atR (i := 0) hcd rfl hw)) rfl rfl (fun a19 c19 F19 => kk_wl ?_))
    refine wl_u rfl (ow_storeA Tb (k := 2) rfl rfl rfl rfl rfl rfl rfl rfl rfl (kk_wl ?_))
    refine wl_nil ?_
    refine ex_seq ?_
    refine cw_ret ?_
    refine ex_then_ret ?_
    obtain rfl := Option.some.inj h
    exact ex_r1 Tb rfl (.cellA 0 rfl rfl rfl rfl rfl) (fun wq hq => ⟨_, rfl, hq.ext, ⟨a19, c19, F19, rfl, NewM.sel [1, 2] hq rfl⟩⟩)
  · skip
    replace h := bf c1 h
    have q2 := eqb_false.1 c1
    refine wl_g rfl rfl (ow_y (yh_loadBA Tb (k := 2) rfl rfl rfl rfl rfl rfl) rfl rfl (kk_wl ?_))
    obtain ⟨x15, hx15, h⟩ := bd h
    refine wl_g rfl rfl (ow_cV rfl hb63 rfl (fun w hw => c_spec_FlowValid N _ _ hx15 w (Lay.at_ h_f_steps hw)) rfl rfl (kk_wl ?_))
    refine wl_g rfl rfl (ow_y (yh_not rfl rfl) rfl rfl (kk_wl ?_))
    refine wl_u rfl (ow_y (yh_pickF rfl rfl rfl) rfl rfl (kk_wl ?_))
    refine wl_nil ?_
    refine ex_seq ?_
    refine cw_split rfl (fun c2 => ?_) (fun c2 => ?_)
    · skip
      replace h := bt c2 h
      refine cw_seq ?_
      refine cw_region ?_
      refine wl_u rfl (ow_y (yh_move rfl rfl) rfl rfl (kk_wl ?_))
      obtain ⟨x19, hx19, h⟩ := bd h
      refine wl_u rfl (ow_cM1 0 rfl hb69 rfl rfl (fun w hw => c_spec_l91Flow N _ _ _ hx19 w (hw.at (i := 0) rfl) (Lay.atR (i := 0) hcd rfl hw)) rfl rfl (fun a19 c19 F19 => kk_wl ?_))
      refine wl_u rfl (ow_storeA Tb (k := 2) rfl rfl rfl rfl rfl rfl rfl rfl rfl (kk_wl ?_))
      refine wl_nil ?_
      refine ex_seq ?_
      refine cw_ret ?_
      refine ex_then_ret ?_
      obtain rfl := Option.some.inj h
      exact ex_r1 Tb rfl (.cellA 0 rfl rfl rfl rfl rfl) (fun wq hq => ⟨_, rfl, hq.ext, ⟨a19, c19, F19, rfl, NewM.sel [1, 2] hq rfl⟩⟩)
    · skip
      replace h := bf c2 h
      refine cw_skip ?_
      refine ex_seq ?_
      refine cw_seq ?_
      refine cw_region ?_
      refine wl_u rfl (ow_y (yh_loadBA Tb (k := 2) rfl rfl rfl rfl rfl rfl) rfl rfl (kk_wl ?_))
      obtain ⟨x21, hx21, h⟩ := bd h
      refine wl_u rfl (ow_cN1 rfl hb108 rfl (fun w hw => c_spec_l2Copy N _ _ hx21 w (Lay.at_ h_f_steps hw)) rfl rfl (fun a21 c21 F21 => kk_wl ?_))
      refine wl_u rfl (ow_allocA Tb rfl rfl rfl rfl (fun g5 => kk_wl ?_))
      refine wl_u rfl (ow_storeA Tb (k := 0) rfl rfl rfl rfl rfl rfl rfl rfl rfl (kk_wl ?_))
      refine wl_nil ?_
      refine ex_seq ?_
      refine cw_seq ?_
      refine cw_region ?_
      refine wl_u rfl (ow_y (yh_move rfl rfl) rfl rfl (kk_wl ?_))
      obtain ⟨x23, hx23, h⟩ := bd h
      have mp23 := pick_lt hx23 (by decide)
      refine wl_u rfl (ow_cM0 2 rfl hb107 rfl rfl (fun w hw => c_spec_l6Rd_pick N _ _ _ _ hx23 w (hw.at (i := 2) rfl) (Lay.atR (i := 2) hcd rfl hw)) rfl rfl (kk_wl ?_))
      refine wl_u rfl (ow_y (yh_assign rfl rfl) rfl rfl (kk_wl ?_))
      refine wl_nil ?_
      refine ex_seq ?_
      refine cw_seq ?_
      refine cw_seq ?_
      refine cw_region ?_
      refine wl_u rfl (ow_y (yh_assign rfl rfl) rfl rfl (kk_wl ?_))
      refine wl_nil ?_
      refine ex_seq ?_
      refine cw_block ?_
      obtain ⟨e11, he11, hk11⟩ := bd h
      clear h
      refine cw_loopG (σ := Nat × Nat × Int × (List Step) × Nat × (Option Addr) × Nat × (List Nat)) (fun s => m_spec_l92Other_L11 N cd x23 s.1 s.2.1 s.2.2.1 s.2.2.2.1 s.2.2.2.2.1 = some e11) (fun s => [(0, .pointer (some ⟨r, 0, none⟩)), (4, .pointer (some ⟨g4, 0, none⟩)), (5, .pointer (some ⟨g5, 0, none⟩)), (6, .int .i64 x23.1), (7, .int .i64 ((s.2.2.2.2.1 : Nat) : Int))]) (fun s => [blkC r 113 [.slice acd cd.length ccd, .int .i64 ((s.2.1 : Nat) : Int)], blkC g4 25 [.int .i64 0, .slice none 0 0], blkC g5 25 [.int .i64 s.2.2.1, .slice s.2.2.2.2.2.1 s.2.2.2.1.length s.2.2.2.2.2.2.1], owC stepsL s.2.2.2.2.2.2.2 [.slice s.2.2.2.2.2.1 s.2.2.2.1.length s.2.2.2.2.2.2.1] s.2.2.2.1]) (fun s => s.1) (N, x23.2, x21.ver, x21.steps, 0, a21, c21, F21) [0, 3, 1, 2] he11 ⟨rfl, rfl, rfl, rfl, rfl, trivial⟩ rfl (fun KL s he11 hn11 => ?_)
      obtain ⟨n11, s0_c_1, s5_c_0, s5_c_1, s7, as5_c_1, cs5_c_1, Fs5_c_1⟩ := s
      simp only at he11 hn11 ⊢
      rcases n11 with _ | n11
      · exact nosome he11
      have h := he11; rw [m_spec_l92Other_L11] at h
      refine cw_seq ?_
      refine cw_seq ?_
      refine cw_region ?_
      refine wl_u rfl (ow_y (yh_move rfl rfl) rfl rfl (kk_wl ?_))
      refine wl_u rfl (ow_y (yh_move rfl rfl) rfl rfl (kk_wl ?_))
      refine wl_u rfl (ow_y (yh_cmpI rfl rfl rfl rfl) rfl rfl (kk_wl ?_))
      refine wl_nil ?_
      refine ex_seq ?_
      refine cw_split rfl (fun c3 => ?_) (fun c3 => ?_)
      · skip
        replace h := bt c3 h
        have q3 := ltb_true.1 c3
        refine cw_skip ?_
        refine ex_seq ?_
        refine cw_seq ?_
        refine cw_block ?_
        refine cw_seq ?_
        refine cw_dr [0, 1, 2, 5, 6, 7, 10] [] [blkC g4 25 [.int .i64 0, .slice none 0 0], blkC g5 25 [.int .i64 s5_c_0, .slice as5_c_1 s5_c_1.length cs5_c_1], owC stepsL Fs5_c_1 [.slice as5_c_1 s5_c_1.length cs5_c_1] s5_c_1] (by kernel_rfl) ?_
        refine wd_take (i := 0) [1, 2, 3] rfl rfl rfl rfl rfl (by kernel_rfl) (by kernel_rfl) (fun _ _ _ _ h => h) (yh_loadBA Tb (k := 1) rfl rfl rfl rfl rfl rfl) ?_
        refine wd_take (i := 1) [1, 2, 3] rfl rfl rfl rfl rfl (by kernel_rfl) (by kernel_rfl) (fun _ _ _ _ h => h) (yh_move rfl rfl) ?_
        refine wd_take (i := 2) [1, 2, 3] rfl rfl rfl rfl rfl (by kernel_rfl) (by kernel_rfl) (fun _ _ _ _ h => h) (yh_loadBA Tb (k := 1) rfl rfl rfl rfl rfl rfl) ?_
        refine wd_all [3, 8] (by kernel_rfl) (by simp) (fun i hi => ?_)
        simp only [List.mem_cons, List.not_mem_nil, or_false] at hi
        rcases hi with rfl | rfl
        · refine ⟨_, rfl, rfl, ?_⟩
          obtain ⟨x33, hx33, h⟩ := bd h
          refine (ow_cM1 0 rfl hb110 rfl rfl (fun w hw => c_spec_l92Change N _ _ _ _ hx33 w (hw.at (i := 0) rfl) (Lay.atR (i := 0) hcd rfl hw) (rdoR (A := stepsL) 3 0 rfl rfl rfl hw)) rfl rfl (fun a33 c33 F33 => kk_wd [2, 3, 4] (by kernel_rfl) ?_))
          refine wd_all [4, 8] (by kernel_rfl) (by simp) (fun i hi => ?_)
          simp only [List.mem_cons, List.not_mem_nil, or_false] at hi
          rcases hi with rfl | rfl
          · refine ⟨_, rfl, rfl, ?_⟩
            obtain ⟨x34, hx34, h⟩ := bd h
            refine (ow_cN1 rfl hb109 rfl (fun w hw => c_spec_FlowChange N _ _ _ hx34 w (rdo (A := stepsL) 4 rfl hw) (rdo (A := strsL) 0 rfl hw)) rfl rfl (fun a34 c34 F34 => kk_wd [3, 4, 5] (by kernel_rfl) ?_))
            refine wd_take (i := 5) [3, 4, 5] rfl rfl rfl rfl rfl (by kernel_rfl) (by kernel_rfl) (fun _ _ _ _ h => h) (yh_move rfl rfl) ?_
            refine wd_take (i := 6) [3, 4, 5] rfl rfl rfl rfl rfl (by kernel_rfl) (by kernel_rfl) (fun _ _ _ _ h => h) (yh_extract rfl rfl rfl) ?_
            refine wd_take (i := 7) [3, 4, 5] rfl rfl rfl rfl rfl (by kernel_rfl) (by kernel_rfl) (fun _ _ _ _ h => h) (yh_extract rfl rfl rfl) ?_
            refine wd_one 8 rfl rfl (by kernel_rfl) (ow_allocA Tb rfl rfl rfl rfl (fun g8 => kk_wd [4, 5, 6] (by kernel_rfl) ?_))
            refine wd_one 9 rfl rfl (by kernel_rfl) (ow_storeA Tb (k := 0) rfl rfl rfl rfl rfl rfl rfl rfl rfl (kk_wd [4, 5, 6] (by kernel_rfl) ?_))
            refine wd_take (i := 10) [4, 5, 6] rfl rfl rfl rfl rfl (by kernel_rfl) (by kernel_rfl) (fun _ _ _ _ h => h) (yh_assign rfl rfl) ?_
            refine wd_done (by kernel_rfl) ?_
            refine ex_seq ?_
            refine cw_seq ?_
            refine cw_region ?_
            refine wl_u rfl (ow_y (yh_move rfl rfl) rfl rfl (kk_wl ?_))
            refine wl_nil ?_
            refine ex_seq ?_
            refine cw_split rfl (fun c4 => ?_) (fun c4 => ?_)
            · skip
              replace h := bt c4 h
              refine cw_region ?_
              refine wl_u rfl (ow_y (yh_loadBA Tb (k := 0) rfl rfl rfl rfl rfl rfl) rfl rfl (kk_wl ?_))
              refine wl_u rfl (ow_storeA Tb (k := 5) rfl rfl rfl rfl rfl rfl rfl rfl rfl (kk_wl ?_))
              refine wl_nil ?_
              refine ex_block_normal ?_
              refine ex_seq ?_
              refine cw_region ?_
              refine wl_u rfl (ow_y (yh_move rfl rfl) rfl rfl (kk_wl ?_))
              refine wl_u rfl (ow_y (yh_arI rfl rfl rfl rfl (by omega)) rfl rfl (kk_wl ?_))
              refine wl_u rfl (ow_y (yh_assign rfl rfl) rfl rfl (kk_wl ?_))
              refine wl_nil ?_
              exact ex_next [4, 5, 0, 2] (hn11 (n11, x33.2, x34.1.ver, x34.1.steps, s7 + 1, a34, c34, F34) (Nat.lt_succ_self _) h) ⟨rfl, rfl, rfl, rfl, rfl, trivial⟩ (by kernel_rfl)
            · skip
              replace h := bf c4 h
              refine cw_skip ?_
              refine ex_block_normal ?_
              refine ex_seq ?_
              refine cw_region ?_
              refine wl_u rfl (ow_y (yh_move rfl rfl) rfl rfl (kk_wl ?_))
              refine wl_u rfl (ow_y (yh_arI rfl rfl rfl rfl (by omega)) rfl rfl (kk_wl ?_))
              refine wl_u rfl (ow_y (yh_assign rfl rfl) rfl rfl (kk_wl ?_))
              refine wl_nil ?_
              exact ex_next [3, 4, 5, 6] (hn11 (n11, x33.2, s5_c_0, s5_c_1, s7 + 1, as5_c_1, cs5_c_1, Fs5_c_1) (Nat.lt_succ_self _) h) ⟨rfl, rfl, rfl, rfl, rfl, trivial⟩ (by kernel_rfl)
          · refine ⟨_, rfl, rfl, ?_⟩
            refine (ow_allocA Tb rfl rfl rfl rfl (fun g8 => kk_wd [3, 4, 5] (by kernel_rfl) ?_))
            obtain ⟨x34, hx34, h⟩ := bd h
            refine wd_one 4 rfl rfl (by kernel_rfl) (ow_cN1 rfl hb109 rfl (fun w hw => c_spec_FlowChange N _ _ _ hx34 w (rdo (A := stepsL) 5 rfl hw) (rdo (A := strsL) 1 rfl hw)) rfl rfl (fun a34 c34 F34 => kk_wd [4, 5, 6] (by kernel_rfl) ?_))
            refine wd_take (i := 5) [4, 5, 6] rfl rfl rfl rfl rfl (by kernel_rfl) (by kernel_rfl) (fun _ _ _ _ h => h) (yh_move rfl rfl) ?_
            refine wd_take (i := 6) [4, 5, 6] rfl rfl rfl rfl rfl (by kernel_rfl) (by kernel_rfl) (fun _ _ _ _ h => h) (yh_extract rfl rfl rfl) ?_
            refine wd_take (i := 7) [4, 5, 6] rfl rfl rfl rfl rfl (by kernel_rfl) (by kernel_rfl) (fun _ _ _ _ h => h) (yh_extract rfl rfl rfl) ?_
            refine wd_one 9 rfl rfl (by kernel_rfl) (ow_storeA Tb (k := 1) rfl rfl rfl rfl rfl rfl rfl rfl rfl (kk_wd [4, 5, 6] (by kernel_rfl) ?_))
            refine wd_take (i := 10) [4, 5, 6] rfl rfl rfl rfl rfl (by kernel_rfl) (by kernel_rfl) (fun _ _ _ _ h => h) (yh_assign rfl rfl) ?_
            refine wd_done (by kernel_rfl) ?_
            refine ex_seq ?_
            refine cw_seq ?_
            refine cw_region ?_
            refine wl_u rfl (ow_y (yh_move rfl rfl) rfl rfl (kk_wl ?_))
            refine wl_nil ?_
            refine ex_seq ?_
            refine cw_split rfl (fun c5 => ?_) (fun c5 => ?_)
            · skip
              replace h := bt c5 h
              refine cw_region ?_
              refine wl_u rfl (ow_y (yh_loadBA Tb (k := 0) rfl rfl rfl rfl rfl rfl) rfl rfl (kk_wl ?_))
              refine wl_u rfl (ow_storeA Tb (k := 5) rfl rfl rfl rfl rfl rfl rfl rfl rfl (kk_wl ?_))
              refine wl_nil ?_
              refine ex_block_normal ?_
              refine ex_seq ?_
              refine cw_region ?_
              refine wl_u rfl (ow_y (yh_move rfl rfl) rfl rfl (kk_wl ?_))
              refine wl_u rfl (ow_y (yh_arI rfl rfl rfl rfl (by omega)) rfl rfl (kk_wl ?_))
              refine wl_u rfl (ow_y (yh_assign rfl rfl) rfl rfl (kk_wl ?_))
              refine wl_nil ?_
              exact ex_next [4, 5, 0, 2] (hn11 (n11, x33.2, x34.1.ver, x34.1.steps, s7 + 1, a34, c34, F34) (Nat.lt_succ_self _) h) ⟨rfl, rfl, rfl, rfl, rfl, trivial⟩ (by kernel_rfl)
            · skip
              replace h := bf c5 h
              refine cw_skip ?_
              refine ex_block_normal ?_
              refine ex_seq ?_
              refine cw_region ?_
              refine wl_u rfl (ow_y (yh_move rfl rfl) rfl rfl (kk_wl ?_))
              refine wl_u rfl (ow_y (yh_arI rfl rfl rfl rfl (by omega)) rfl rfl (kk_wl ?_))
              refine wl_u rfl (ow_y (yh_assign rfl rfl) rfl rfl (kk_wl ?_))
              refine wl_nil ?_
              exact ex_next [3, 4, 5, 6] (hn11 (n11, x33.2, s5_c_0, s5_c_1, s7 + 1, as5_c_1, cs5_c_1, Fs5_c_1) (Nat.lt_succ_self _) h) ⟨rfl, rfl, rfl, rfl, rfl, trivial⟩ (by kernel_rfl)
        · refine ⟨_, rfl, rfl, ?_⟩
          refine (ow_allocA Tb rfl rfl rfl rfl (fun g8 => kk_wd [2, 3, 4] (by kernel_rfl) ?_))
          obtain ⟨x33, hx33, h⟩ := bd h
          refine wd_one 3 rfl rfl (by kernel_rfl) (ow_cM1 1 rfl hb110 rfl rfl (fun w hw => c_spec_l92Change N _ _ _ _ hx33 w (hw.at (i := 1) rfl) (Lay.atR (i := 1) hcd rfl hw) (rdoR (A := stepsL) 4 1 rfl rfl rfl hw)) rfl rfl (fun a33 c33 F33 => kk_wd [3, 4, 5] (by kernel_rfl) ?_))
          obtain ⟨x34, hx34, h⟩ := bd h
          refine wd_one 4 rfl rfl (by kernel_rfl) (ow_cN1 rfl hb109 rfl (fun w hw => c_spec_FlowChange N _ _ _ hx34 w (rdo (A := stepsL) 5 rfl hw) (rdo (A := strsL) 0 rfl hw)) rfl rfl (fun a34 c34 F34 => kk_wd [4, 5, 6] (by kernel_rfl) ?_))
          refine wd_take (i := 5) [4, 5, 6] rfl rfl rfl rfl rfl (by kernel_rfl) (by kernel_rfl) (fun _ _ _ _ h => h) (yh_move rfl rfl) ?_
          refine wd_take (i := 6) [4, 5, 6] rfl rfl rfl rfl rfl (by kernel_rfl) (by kernel_rfl) (fun _ _ _ _ h => h) (yh_extract rfl rfl rfl) ?_
          refine wd_take (i := 7) [4, 5, 6] rfl rfl rfl rfl rfl (by kernel_rfl) (by kernel_rfl) (fun _ _ _ _ h => h) (yh_extract rfl rfl rfl) ?_
          refine wd_one 9 rfl rfl (by kernel_rfl) (ow_storeA Tb (k := 3) rfl rfl rfl rfl rfl rfl rfl rfl rfl (kk_wd [4, 5, 6] (by kernel_rfl) ?_))
          refine wd_take (i := 10) [4, 5, 6] rfl rfl rfl rfl rfl (by kernel_rfl) (by kernel_rfl) (fun _ _ _ _ h => h) (yh_assign rfl rfl) ?_
          refine wd_done (by kernel_rfl) ?_
          refine ex_seq ?_
          refine cw_seq ?_
          refine cw_region ?_
          refine wl_u rfl (ow_y (yh_move rfl rfl) rfl rfl (kk_wl ?_))
          refine wl_nil ?_
          refine ex_seq ?_
          refine cw_split rfl (fun c6 => ?_) (fun c6 => ?_)
          · skip
            replace h := bt c6 h
            refine cw_region ?_
            refine wl_u rfl (ow_y (yh_loadBA Tb (k := 0) rfl rfl rfl rfl rfl rfl) rfl rfl (kk_wl ?_))
            refine wl_u rfl (ow_storeA Tb (k := 5) rfl rfl rfl rfl rfl rfl rfl rfl rfl (kk_wl ?_))
            refine wl_nil ?_
            refine ex_block_normal ?_
            refine ex_seq ?_
            refine cw_region ?_
            refine wl_u rfl (ow_y (yh_move rfl rfl) rfl rfl (kk_wl ?_))
            refine wl_u rfl (ow_y (yh_arI rfl rfl rfl rfl (by omega)) rfl rfl (kk_wl ?_))
            refine wl_u rfl (ow_y (yh_assign rfl rfl) rfl rfl (kk_wl ?_))
            refine wl_nil ?_
            exact ex_next [4, 5, 0, 2] (hn11 (n11, x33.2, x34.1.ver, x34.1.steps, s7 + 1, a34, c34, F34) (Nat.lt_succ_self _) h) ⟨rfl, rfl, rfl, rfl, rfl, trivial⟩ (by kernel_rfl)
          · skip
            replace h := bf c6 h
            refine cw_skip ?_
            refine ex_block_normal ?_
            refine ex_seq ?_
            refine cw_region ?_
            refine wl_u rfl (ow_y (yh_move rfl rfl) rfl rfl (kk_wl ?_))
            refine wl_u rfl (ow_y (yh_arI rfl rfl rfl rfl (by omega)) rfl rfl (kk_wl ?_))
            refine wl_u rfl (ow_y (yh_assign rfl rfl) rfl rfl (kk_wl ?_))
            refine wl_nil ?_
            exact ex_next [3, 4, 5, 6] (hn11 (n11, x33.2, s5_c_0, s5_c_1, s7 + 1, as5_c_1, cs5_c_1, Fs5_c_1) (Nat.lt_succ_self _) h) ⟨rfl, rfl, rfl, rfl, rfl, trivial⟩ (by kernel_rfl)
      · skip
        replace h := bf c3 h
        have q4 := ltb_false.1 c3
        refine cw_exit ?_
        refine ex_then_exit ?_
        refine ex_then_exit ?_
        obtain rfl := Option.some.inj h
        have h := go_brk hk11
        refine ex_block_exit ?_
        refine ex_seq ?_
        refine cw_seq ?_
        refine cw_region ?_
        refine wl_u rfl (ow_y (yh_loadBA Tb (k := 2) rfl rfl rfl rfl rfl rfl) rfl rfl (kk_wl ?_))
        refine wl_u rfl (ow_storeA Tb (k := 1) rfl rfl rfl rfl rfl rfl rfl rfl rfl (kk_wl ?_))
        refine wl_nil ?_
        refine ex_seq ?_
        refine cw_ret ?_
        obtain rfl := Option.some.inj h
        exact ex_r1 Tb rfl (.cellA 0 rfl rfl rfl rfl rfl) (fun wq hq => ⟨_, rfl, hq.ext, ⟨as5_c_1, cs5_c_1, Fs5_c_1, rfl, NewM.sel [3, 1] hq rfl⟩⟩)

def m_spec_DrawMoveAll (N : Nat) (code : List UInt8) : Option (Flow × Flow × List Run) := (m_spec_l91Flow N (code.take 2000) 0).bind fun x11 => (m_spec_l92Runs N (code.take 2000) x11.2 x11.1).bind fun x14 => (m_spec_l92Other N (code.take 2000) x14.2 x11.1).bind fun x18 => some (x11.1, x18.1, x14.1)

set_option maxHeartbeats 4000000 in
theorem c_spec_DrawMoveAll (N : Nat) (code : List UInt8) (res : Flow × Flow × List Run) (h : m_spec_DrawMoveAll N code = some res) (w : World) {a_code : Option Addr} {c_code : Nat} (h_code : bytesL.rd w [] [.slice a_code code.length c_code] code) : Ret Try.prog 25 [.slice a_code code.length c_code] w [] fun v w' => ∃ a1 c1 F1 a2 c2 F2 a3 c3 F3, v = .tuple #[.agg #[.int .i64 res.1.ver, .slice a1 res.1.steps.length c1], .agg #[.int .i64 res.2.1.ver, .slice a2 res.2.1.steps.length c2], .slice a3 res.2.2.length c3] ∧ NewC w w' [owC stepsL F1 [.slice a1 res.1.steps.length c1] res.1.steps, owC stepsL F2 [.slice a2 res.2.1.steps.length c2] res.2.1.steps, owC runsL F3 [.slice a3 res.2.2.length c3] res.2.2] := by
  have mh_code := rd_max h_code
  unfold m_spec_DrawMoveAll at h
  refine ret_enter Try.func25 rfl Try.ntmps25 rfl (Hp.refl w _) ?_
  refine cw_seq ?_
  refine cw_region ?_
  refine wl_u rfl (ow_allocA Tb rfl rfl rfl rfl (fun g2 => kk_wl ?_))
  refine wl_u rfl (ow_allocA Tb rfl rfl rfl rfl (fun g3 => kk_wl ?_))
  refine wl_u rfl (ow_y (yh_assign rfl rfl) rfl rfl (kk_wl ?_))
  refine wl_nil ?_
  refine ex_seq ?_
  refine cw_seq ?_
  refine cw_region ?_
  refine wl_u rfl (ow_y (yh_move rfl rfl) rfl rfl (kk_wl ?_))
  have hf9 := take_fact h_code 2000
  refine wl_u rfl (ow_open rfl rfl (fun w hw => Lay.at_ h_code hw) rfl rfl (fun g9 => kk_wl ?_))
  refine wl_u rfl (ow_y (yh_assign rfl rfl) rfl rfl (kk_wl ?_))
  refine wl_nil ?_
  refine ex_seq ?_
  refine cw_seq ?_
  refine cw_region ?_
  refine wl_u rfl (ow_y (yh_move rfl rfl) rfl rfl (kk_wl ?_))
  obtain ⟨x11, hx11, h⟩ := bd h
  refine wl_u rfl (ow_cM1 0 rfl hb69 rfl rfl (fun w hw => c_spec_l91Flow N _ _ _ hx11 w (hw.at (i := 0) rfl) (Lay.atR (i := 0) hf9 rfl hw)) rfl rfl (fun a11 c11 F11 => kk_wl ?_))
  refine wl_u rfl (ow_allocA Tb rfl rfl rfl rfl (fun g6 => kk_wl ?_))
  refine wl_u rfl (ow_storeA Tb (k := 0) rfl rfl rfl rfl rfl rfl rfl rfl rfl (kk_wl ?_))
  refine wl_nil ?_
  refine ex_seq ?_
  refine cw_seq ?_
  refine cw_region ?_
  refine wl_u rfl (ow_y (yh_move rfl rfl) rfl rfl (kk_wl ?_))
  refine wl_u rfl (ow_y (yh_loadBA Tb (k := 0) rfl rfl rfl rfl rfl rfl) rfl rfl (kk_wl ?_))
  obtain ⟨x14, hx14, h⟩ := bd h
  refine wl_u rfl (ow_cM1 2 rfl hb70 rfl rfl (fun w hw => c_spec_l92Runs N _ _ _ _ hx14 w (hw.at (i := 2) rfl) (Lay.atR (i := 2) hf9 rfl hw) (rdoR (A := stepsL) 1 2 rfl rfl rfl hw)) rfl rfl (fun a14 c14 F14 => kk_wl ?_))
  refine wl_u rfl (ow_y (yh_assign rfl rfl) rfl rfl (kk_wl ?_))
  refine wl_nil ?_
  refine ex_seq ?_
  refine cw_seq ?_
  refine cw_dr [0, 1, 2, 4, 7] [] [owC runsL F14 [.slice a14 x14.1.length c14] x14.1, blkC g6 25 [.int .i64 x11.1.ver, .slice a11 x11.1.steps.length c11], owC stepsL F11 [.slice a11 x11.1.steps.length c11] x11.1.steps] (by kernel_rfl) ?_
  refine wd_take (i := 0) [0, 2, 3] rfl rfl rfl rfl rfl (by kernel_rfl) (by kernel_rfl) (fun _ _ _ _ h => h) (yh_loadBA Tb (k := 1) rfl rfl rfl rfl rfl rfl) ?_
  refine wd_take (i := 1) [0, 2, 3] rfl rfl rfl rfl rfl (by kernel_rfl) (by kernel_rfl) (fun _ _ _ _ h => h) (yh_move rfl rfl) ?_
  refine wd_take (i := 2) [0, 2, 3] rfl rfl rfl rfl rfl (by kernel_rfl) (by kernel_rfl) (fun _ _ _ _ h => h) (yh_loadBA Tb (k := 1) rfl rfl rfl rfl rfl rfl) ?_
  refine wd_take (i := 4) [0, 2, 3] rfl rfl rfl rfl rfl (by kernel_rfl) (by kernel_rfl) (fun _ _ _ _ h => h) (yh_move rfl rfl) ?_
  obtain ⟨x18, hx18, h⟩ := bd h
  refine wd_one 3 rfl rfl (by kernel_rfl) (ow_cM1 1 rfl hb68 rfl rfl (fun w hw => c_spec_l92Other N _ _ _ _ hx18 w (hw.at (i := 1) rfl) (Lay.atR (i := 1) hf9 rfl hw) (rdoR (A := stepsL) 3 1 rfl rfl rfl hw)) rfl rfl (fun a18 c18 F18 => kk_wd [2, 3, 4] (by kernel_rfl) ?_))
  refine wd_one 5 rfl rfl (by kernel_rfl) (ow_storeA Tb (k := 6) rfl rfl rfl rfl rfl rfl rfl rfl rfl (kk_wd [3, 4, 5] (by kernel_rfl) ?_))
  refine wd_one 6 rfl rfl (by kernel_rfl) (ow_storeA Tb (k := 6) rfl rfl rfl rfl rfl rfl rfl rfl rfl (kk_wd [4, 5, 6] (by kernel_rfl) ?_))
  refine wd_take (i := 7) [4, 5, 6] rfl rfl rfl rfl rfl (by kernel_rfl) (by kernel_rfl) (fun _ _ _ _ h => h) (yh_assign rfl rfl) ?_
  refine wd_done (by kernel_rfl) ?_
  refine ex_seq ?_
  refine cw_ret ?_
  obtain rfl := Option.some.inj h
  exact ex_r3 Tb rfl (.cellA 1 rfl rfl rfl rfl rfl) (.cellA 0 rfl rfl rfl rfl rfl) (.tmp rfl) (fun wq hq => ⟨_, rfl, hq.ext, ⟨a11, c11, F11, a18, c18, F18, a14, c14, F14, rfl, NewC.sel [6, 2, 4] hq rfl⟩⟩)

def m_impl_Flow_names_L5 (N : Nat) (f : Flow) : Nat → (List Str) → Nat → Option (Ex (List Str × Nat) (List Str))
  | 0, _, _ => none
  | n + 1, s3, s9 => (bif ltb ((s9 : Nat) : Int) ((f.steps.length : Nat) : Int) then (f.steps[s9]?).bind fun y11 => (appd s3 ([y11.name] : List Str)).bind fun l17 => m_impl_Flow_names_L5 N f n (s3 ++ ([y11.name] : List Str)) (s9 + 1)
 else some (Ex.brk (s3, s9)))

def m_impl_Flow_names (N : Nat) (f : Flow) : Option (List Str) := (m_impl_Flow_names_L5 N f N ([] : List Str) 0).bind fun e5 => e5.go (fun r => r) fun b5 => some b5.1

set_option maxHeartbeats 4000000 in
theorem c_impl_Flow_names (N : Nat) (f : Flow) (res : List Str) (h : m_impl_Flow_names N f = some res) (w : World) {a_f_steps : Option Addr} {c_f_steps : Nat} (h_f_steps : stepsL.rd w [] [.slice a_f_steps f.steps.length c_f_steps] f.steps) : Ret Try.prog 82 [.agg #[.int .i64 f.ver, .slice a_f_steps f.steps.length c_f_steps]] w [] fun v w' => ∃ a1 c1 F1, v = .slice a1 res.length c1 ∧ NewC w w' [owC strsL F1 [.slice a1 res.length c1] res] := by
  have mh_f_steps := rd_max h_f_steps
  unfold m_impl_Flow_names at h
  refine ret_enter Try.func82 rfl Try.ntmps82 rfl (Hp.refl w _) ?_
  refine cw_seq ?_
  refine cw_region ?_
  refine wl_u rfl (ow_boxA rfl rfl rfl rfl (fun g1 => kk_wl ?_))
  refine wl_u rfl (ow_y (yh_assign rfl rfl) rfl rfl (kk_wl ?_))
  refine wl_nil ?_
  refine ex_seq ?_
  refine cw_seq ?_
  refine cw_region ?_
  refine wl_u rfl (ow_y (yh_assign rfl rfl) rfl rfl (kk_wl ?_))
  refine wl_nil ?_
  refine ex_seq ?_
  refine cw_seq ?_
  refine cw_seq ?_
  refine cw_region ?_
  refine wl_u rfl (ow_y (yh_field Tb rfl rfl rfl) rfl rfl (kk_wl ?_))
  refine wl_u rfl (ow_y (yh_loadB Tb (k := 0) rfl rfl rfl rfl rfl) rfl rfl (kk_wl ?_))
  refine wl_u rfl (ow_y (yh_lenS Tb rfl rfl rfl rfl) rfl rfl (kk_wl ?_))
  refine wl_u rfl (ow_y (yh_move rfl rfl) rfl rfl (kk_wl ?_))
  refine wl_nil ?_
  refine ex_seq ?_
  refine cw_block ?_
  obtain ⟨e5, he5, hk5⟩ := bd h
  clear h
  refine cw_nilS strsL rfl ?_
  refine cw_loopG (σ := Nat × (List Str) × Nat × (Option Addr) × Nat × (List Nat)) (fun s => m_impl_Flow_names_L5 N f s.1 s.2.1 s.2.2.1 = some e5) (fun s => [(3, .slice s.2.2.2.1 s.2.1.length s.2.2.2.2.1), (7, .slice a_f_steps f.steps.length c_f_steps), (8, .int .i64 ((f.steps.length : Nat) : Int)), (9, .int .i64 ((s.2.2.1 : Nat) : Int))]) (fun s => [owC strsL s.2.2.2.2.2 [.slice s.2.2.2.1 s.2.1.length s.2.2.2.2.1] s.2.1]) (fun s => s.1) (N, ([] : List Str), 0, none, 0, []) [0] he5 ⟨rfl, rfl, rfl, rfl, trivial⟩ rfl (fun KL s he5 hn5 => ?_)
  obtain ⟨n5, s3, s9, as3, cs3, Fs3⟩ := s
  simp only at he5 hn5 ⊢
  rcases n5 with _ | n5
  · exact nosome he5
  have h := he5; rw [m_impl_Flow_names_L5] at h
  refine cw_seq ?_
  refine cw_region ?_
  refine wl_u rfl (ow_y (yh_cmpI rfl rfl rfl rfl) rfl rfl (kk_wl ?_))
  refine wl_nil ?_
  refine ex_seq ?_
  refine cw_seq ?_
  refine cw_split rfl (fun c1 => ?_) (fun c1 => ?_)
  · skip
    replace h := bt c1 h
    have q1 := ltb_true.1 c1
    refine cw_skip ?_
    refine ex_seq ?_
    refine cw_seq ?_
    refine cw_block ?_
    refine cw_seq ?_
    refine cw_region ?_
    obtain ⟨y11, hy11, h⟩ := bd h
    obtain ⟨b11, o11, ha11⟩ := sl_addr h_f_steps hy11
    subst ha11
    obtain ⟨a11, e11, hc11, hf11⟩ := get_step h_f_steps hy11
    have mx11 := rd_max hf11
    refine wl_u rfl (ow_y (yh_idx Tb (k := s9) rfl rfl rfl rfl (get_lt hy11) rfl rfl) rfl rfl (kk_wl ?_))
    refine wl_u rfl (ow_y (yh_loadAN Tb rfl rfl rfl rfl hc11 rfl) rfl rfl (kk_wl ?_))
    refine wl_u rfl (ow_allocA Tb rfl rfl rfl rfl (fun g5 => kk_wl ?_))
    refine wl_u rfl (ow_storeA Tb (k := 0) rfl rfl rfl rfl rfl rfl rfl rfl rfl (kk_wl ?_))
    refine wl_nil ?_
    refine ex_seq ?_
    refine cw_region ?_
    refine wl_u rfl (ow_y (yh_move rfl rfl) rfl rfl (kk_wl ?_))
    refine wl_u rfl (ow_y (yh_field Tb rfl rfl rfl) rfl rfl (kk_wl ?_))
    refine wl_u rfl (ow_y (yh_loadB Tb (k := 0) rfl rfl rfl rfl rfl) rfl rfl (kk_wl ?_))
    refine wl_u rfl (ow_lit1 Tb rfl rfl rfl rfl rfl rfl rfl rfl rfl rfl (fun g16 => kk_chg (c' := owC strsL [g16] [.slice (some ⟨g16, 0, none⟩) 1 1] ([y11.name] : List Str)) 0 rfl (fun w hA => own_strsL ([y11.name] : List Str) hA rfl (by simp [maxLen])) rfl (kk_wl ?_)))
    obtain ⟨hll17, h⟩ := bd_appd h
    refine wl_u rfl (ow_appP Tb (i := 2) rfl rfl rfl rfl rfl (fun w hw => rdo (A := strsL) 0 rfl hw) rfl rfl rfl rfl hll17 (by decide) rfl rfl (fun a17 c17 F17 => kk_wl ?_))
    refine wl_u rfl (ow_y (yh_assign rfl rfl) rfl rfl (kk_wl ?_))
    refine wl_nil ?_
    refine ex_block_normal ?_
    refine ex_seq ?_
    refine cw_region ?_
    refine wl_u rfl (ow_y (yh_arI rfl rfl rfl rfl (by omega)) rfl rfl (kk_wl ?_))
    refine wl_u rfl (ow_y (yh_move rfl rfl) rfl rfl (kk_wl ?_))
    refine wl_nil ?_
    exact ex_next [0] (hn5 (n5, (s3 ++ ([y11.name] : List Str)), s9 + 1, a17, c17, F17) (Nat.lt_succ_self _) h) ⟨rfl, rfl, rfl, rfl, trivial⟩ (by kernel_rfl)
  · skip
    replace h := bf c1 h
    have q2 := ltb_false.1 c1
    refine cw_exit ?_
    refine ex_then_exit ?_
    refine ex_then_exit ?_
    obtain rfl := Option.some.inj h
    have h := go_brk hk5
    refine ex_block_exit ?_
    refine ex_seq ?_
    refine cw_seq ?_
    refine cw_region ?_
    refine wl_u rfl (ow_y (yh_move rfl rfl) rfl rfl (kk_wl ?_))
    refine wl_u rfl (ow_y (yh_assign rfl rfl) rfl rfl (kk_wl ?_))
    refine wl_nil ?_
    refine ex_seq ?_
    refine cw_ret ?_
    obtain rfl := Option.some.inj h
    exact ex_r1 Tb rfl (.tmp rfl) (fun wq hq => ⟨_, rfl, hq.ext, ⟨as3, cs3, Fs3, rfl, NewC.sel [0] hq rfl⟩⟩)

def m_impl_NameValid_L8 (N : Nat) (s_ : Str) : Nat → Nat → Option (Ex (Nat) (Bool))
  | 0, _ => none
  | n + 1, s14 => (bif ltb ((s14 : Nat) : Int) ((s_.size : Nat) : Int) then (bget s_ s14).bind fun y19 => (bif ltb ((y19 : Nat) : Int) 97 then some (Ex.ret false)
 else (bget s_ s14).bind fun y24 => (bif ltb 122 ((y24 : Nat) : Int) then some (Ex.ret false)
 else m_impl_NameValid_L8 N s_ n (s14 + 1)))
 else some (Ex.brk (s14)))

def m_impl_NameValid (N : Nat) (s_ : Str) : Option (Bool) := (ssz s_).bind fun z5 => (bif ltb ((s_.size : Nat) : Int) 1 then some false
 else (bif ltb 5 ((s_.size : Nat) : Int) then some false
 else (m_impl_NameValid_L8 N s_ N 0).bind fun e8 => e8.go (fun r => r) fun b8 => some true))

set_option maxHeartbeats 4000000 in
theorem c_impl_NameValid (N : Nat) (s_ : Str) (res : Bool) (h : m_impl_NameValid N s_ = some res) (w : World) : Ret Try.prog 125 [.string s_] w [] fun v w' => v = .bool res := by
  unfold m_impl_NameValid at h
  refine ret_enter Try.func125 rfl Try.ntmps125 rfl (Hp.refl w _) ?_
  refine cw_seq ?_
  refine cw_region ?_
  refine wl_u rfl (ow_y (yh_assign rfl rfl) rfl rfl (kk_wl ?_))
  refine wl_nil ?_
  refine ex_seq ?_
  refine cw_seq ?_
  refine cw_seq ?_
  refine cw_region ?_
  refine wl_u rfl (ow_y (yh_move rfl rfl) rfl rfl (kk_wl ?_))
  obtain ⟨z5, hz5, h⟩ := bd h
  have mz5 := ssz_some hz5
  refine wl_u rfl (ow_y (yh_lenT Tb rfl rfl rfl rfl) rfl rfl (kk_wl ?_))
  refine wl_u rfl (ow_y (yh_cmpI rfl rfl rfl rfl) rfl rfl (kk_wl ?_))
  refine wl_u rfl (ow_y (yh_move rfl rfl) rfl rfl (kk_wl ?_))
  refine wl_s rfl rfl (fun c1 => ?_) (fun c1 => ?_)
  · skip
    replace h := bt c1 h
    have q1 := ltb_true.1 c1
    refine wl_n rfl rfl rfl rfl ?_
    refine wl_n rfl rfl rfl rfl ?_
    refine wl_n rfl rfl rfl rfl ?_
    refine wl_u rfl (ow_y (yh_pickT rfl rfl rfl) rfl rfl (kk_wl ?_))
    refine wl_nil ?_
    refine ex_seq ?_
    refine cw_true rfl ?_
    refine cw_seq ?_
    refine cw_region ?_
    refine wl_u rfl (ow_y (yh_assign rfl rfl) rfl rfl (kk_wl ?_))
    refine wl_nil ?_
    refine ex_seq ?_
    refine cw_ret ?_
    refine ex_then_ret ?_
    obtain rfl := Option.some.inj h
    exact ex_r1 Tb rfl (.tmp rfl) (fun wq hq => ⟨_, rfl, hq.ext, rfl⟩)
  · skip
    replace h := bf c1 h
    have q2 := ltb_false.1 c1
    refine wl_g rfl rfl (ow_y (yh_move rfl rfl) rfl rfl (kk_wl ?_))
    refine wl_g rfl rfl (ow_y (yh_lenT Tb rfl rfl rfl rfl) rfl rfl (kk_wl ?_))
    refine wl_g rfl rfl (ow_y (yh_cmpI rfl rfl rfl rfl) rfl rfl (kk_wl ?_))
    refine wl_u rfl (ow_y (yh_pickF rfl rfl rfl) rfl rfl (kk_wl ?_))
    refine wl_nil ?_
    refine ex_seq ?_
    refine cw_split rfl (fun c2 => ?_) (fun c2 => ?_)
    · skip
      replace h := bt c2 h
      have q3 := ltb_true.1 c2
      refine cw_seq ?_
      refine cw_region ?_
      refine wl_u rfl (ow_y (yh_assign rfl rfl) rfl rfl (kk_wl ?_))
      refine wl_nil ?_
      refine ex_seq ?_
      refine cw_ret ?_
      refine ex_then_ret ?_
      obtain rfl := Option.some.inj h
      exact ex_r1 Tb rfl (.tmp rfl) (fun wq hq => ⟨_, rfl, hq.ext, rfl⟩)
    · skip
      replace h := bf c2 h
      have q4 := ltb_false.1 c2
      refine cw_skip ?_
      refine ex_seq ?_
      refine cw_seq ?_
      refine cw_seq ?_
      refine cw_region ?_
      refine wl_u rfl (ow_y (yh_move rfl rfl) rfl rfl (kk_wl ?_))
      refine wl_u rfl (ow_y (yh_lenT Tb rfl rfl rfl rfl) rfl rfl (kk_wl ?_))
      refine wl_u rfl (ow_y (yh_move rfl rfl) rfl rfl (kk_wl ?_))
      refine wl_nil ?_
      refine ex_seq ?_
      refine cw_block ?_
      obtain ⟨e8, he8, hk8⟩ := bd h
      clear h
      refine cw_loopG (σ := Nat × Nat) (fun s => m_impl_NameValid_L8 N s_ s.1 s.2 = some e8) (fun s => [(0, .string s_), (13, .int .i64 ((s_.size : Nat) : Int)), (14, .int .i64 ((s.2 : Nat) : Int))]) (fun s => []) (fun s => s.1) (N, 0) [] he8 ⟨rfl, rfl, rfl, trivial⟩ rfl (fun KL s he8 hn8 => ?_)
      obtain ⟨n8, s14⟩ := s
      simp only at he8 hn8 ⊢
      rcases n8 with _ | n8
      · exact nosome he8
      have h := he8; rw [m_impl_NameValid_L8] at h
      refine cw_seq ?_
      refine cw_region ?_
      refine wl_u rfl (ow_y (yh_cmpI rfl rfl rfl rfl) rfl rfl (kk_wl ?_))
      refine wl_nil ?_
      refine ex_seq ?_
      refine cw_seq ?_
      refine cw_split rfl (fun c3 => ?_) (fun c3 => ?_)
      · skip
        replace h := bt c3 h
        have q5 := ltb_true.1 c3
        refine cw_skip ?_
        refine ex_seq ?_
        refine cw_seq ?_
        refine cw_block ?_
        refine cw_seq ?_
        refine cw_region ?_
        refine wl_u rfl (ow_y (yh_move rfl rfl) rfl rfl (kk_wl ?_))
        refine wl_u rfl (ow_y (yh_assign rfl rfl) rfl rfl (kk_wl ?_))
        refine wl_nil ?_
        refine ex_seq ?_
        refine cw_seq ?_
        refine cw_region ?_
        refine wl_u rfl (ow_y (yh_move rfl rfl) rfl rfl (kk_wl ?_))
        refine wl_u rfl (ow_y (yh_move rfl rfl) rfl rfl (kk_wl ?_))
        obtain ⟨y19, hy19, h⟩ := bd h
        refine wl_u rfl (ow_y (yh_indexS Tb (k := s14) rfl rfl rfl rfl hy19 rfl) rfl rfl (kk_wl ?_))
        refine wl_u rfl (ow_y (yh_cmpI rfl rfl rfl rfl) rfl rfl (kk_wl ?_))
        refine wl_u rfl (ow_y (yh_move rfl rfl) rfl rfl (kk_wl ?_))
        refine wl_s rfl rfl (fun c4 => ?_) (fun c4 => ?_)
        · skip
          replace h := bt c4 h
          have q6 := ltb_true.1 c4
          refine wl_n rfl rfl rfl rfl ?_
          refine wl_n rfl rfl rfl rfl ?_
          refine wl_n rfl rfl rfl rfl ?_
          refine wl_n rfl rfl rfl rfl ?_
          refine wl_u rfl (ow_y (yh_pickT rfl rfl rfl) rfl rfl (kk_wl ?_))
          refine wl_nil ?_
          refine ex_seq ?_
          refine cw_true rfl ?_
          refine cw_seq ?_
          refine cw_region ?_
          refine wl_u rfl (ow_y (yh_assign rfl rfl) rfl rfl (kk_wl ?_))
          refine wl_nil ?_
          refine ex_seq ?_
          refine cw_ret ?_
          refine ex_block_ret ?_
          refine ex_then_ret ?_
          refine ex_then_ret ?_
          refine ex_block_ret ?_
          refine ex_then_ret ?_
          obtain rfl := Option.some.inj h
          obtain rfl := go_ret hk8
          exact ex_r1 Tb rfl (.tmp rfl) (fun wq hq => ⟨_, rfl, hq.ext, rfl⟩)
        · skip
          replace h := bf c4 h
          have q7 := ltb_false.1 c4
          refine wl_g rfl rfl (ow_y (yh_move rfl rfl) rfl rfl (kk_wl ?_))
          refine wl_g rfl rfl (ow_y (yh_move rfl rfl) rfl rfl (kk_wl ?_))
          obtain ⟨y24, hy24, h⟩ := bd h
          refine wl_g rfl rfl (ow_y (yh_indexS Tb (k := s14) rfl rfl rfl rfl hy24 rfl) rfl rfl (kk_wl ?_))
          refine wl_g rfl rfl (ow_y (yh_cmpI rfl rfl rfl rfl) rfl rfl (kk_wl ?_))
          refine wl_u rfl (ow_y (yh_pickF rfl rfl rfl) rfl rfl (kk_wl ?_))
          refine wl_nil ?_
          refine ex_seq ?_
          refine cw_split rfl (fun c5 => ?_) (fun c5 => ?_)
          · skip
            replace h := bt c5 h
            have q8 := ltb_true.1 c5
            refine cw_seq ?_
            refine cw_region ?_
            refine wl_u rfl (ow_y (yh_assign rfl rfl) rfl rfl (kk_wl ?_))
            refine wl_nil ?_
            refine ex_seq ?_
            refine cw_ret ?_
            refine ex_block_ret ?_
            refine ex_then_ret ?_
            refine ex_then_ret ?_
            refine ex_block_ret ?_
            refine ex_then_ret ?_
            obtain rfl := Option.some.inj h
            obtain rfl := go_ret hk8
            exact ex_r1 Tb rfl (.tmp rfl) (fun wq hq => ⟨_, rfl, hq.ext, rfl⟩)
          · skip
            replace h := bf c5 h
            have q9 := ltb_false.1 c5
            refine cw_skip ?_
            refine ex_block_normal ?_
            refine ex_seq ?_
            refine cw_region ?_
            refine wl_u rfl (ow_y (yh_arI rfl rfl rfl rfl (by omega)) rfl rfl (kk_wl ?_))
            refine wl_u rfl (ow_y (yh_move rfl rfl) rfl rfl (kk_wl ?_))
            refine wl_nil ?_
            exact ex_next [] (hn8 (n8, s14 + 1) (Nat.lt_succ_self _) h) ⟨rfl, rfl, rfl, trivial⟩ (by kernel_rfl)
      · skip
        replace h := bf c3 h
        have q10 := ltb_false.1 c3
        refine cw_exit ?_
        refine ex_then_exit ?_
        refine ex_then_exit ?_
        obtain rfl := Option.some.inj h
        have h := go_brk hk8
        refine ex_block_exit ?_
        refine ex_seq ?_
        refine cw_seq ?_
        refine cw_region ?_
        refine wl_u rfl (ow_y (yh_assign rfl rfl) rfl rfl (kk_wl ?_))
        refine wl_nil ?_
        refine ex_seq ?_
        refine cw_ret ?_
        obtain rfl := Option.some.inj h
        exact ex_r1 Tb rfl (.tmp rfl) (fun wq hq => ⟨_, rfl, hq.ext, rfl⟩)

end Go.Proofs.Ythlhkinkcbamgaa
