/- Mirrors and contracts, printed by a program: what each function computes as a plain term, and that it does. -/
import Derived.Test.YtmnhnldnnniglaaR
import Derived.Test.YtmnhnldnnniglaaK
import Derived.Test.YtmnhnldnnniglaaM
set_option linter.all false
set_option maxRecDepth 100000
namespace Go.Proofs.Ytmnhnldnnniglaa
open Go.RowKit

def m_spec_l91Flow_L22 (N : Nat) (cd : List UInt8) (s3_c_1 : List Step) : Nat → Nat → (List Str) → Nat → Option (Ex (Nat × List Str × Nat) ((Flow) × Nat))
  | 0, _, _, _ => none
  | n + 1, s0_c_1, s6_c_1, s7 => (bif ltb ((s7 : Nat) : Int) ((s3_c_1.length : Nat) : Int) then (m_spec_l6Rd_pick N cd s0_c_1 3).bind fun x44 => (bif eqb x44.1 0 then (bif ltb ((s6_c_1.length : Nat) : Int) 4 then (s3_c_1[s7]?).bind fun y57 => (appd s6_c_1 ([y57.name] : List Str)).bind fun l61 => m_spec_l91Flow_L22 N cd s3_c_1 n x44.2 (s6_c_1 ++ ([y57.name] : List Str)) (s7 + 1)
 else m_spec_l91Flow_L22 N cd s3_c_1 n x44.2 s6_c_1 (s7 + 1))
 else m_spec_l91Flow_L22 N cd s3_c_1 n x44.2 s6_c_1 (s7 + 1))
 else some (Ex.brk (s0_c_1, s6_c_1, s7)))

def m_spec_l91Flow_L12 (N : Nat) (cd : List UInt8) : Nat → Nat → (List Step) → Nat → Option (Ex (Nat × List Step × Nat) ((Flow) × Nat))
  | 0, _, _, _ => none
  | n + 1, s0_c_1, s3_c_1, s5 => (bif ltb ((s5 : Nat) : Int) 6 then ((m_spec_l6Rd_pick N cd s0_c_1 3).bind fun x21 => (bif ltb 0 x21.1 then some (x21.2, true)
 else some (x21.2, eqb ((s5 : Nat) : Int) 0)) : Option (Nat × Bool)).bind fun j116 => (bif j116.2 then ((([(⟨#[97]⟩ : Str), (⟨#[98]⟩ : Str), (⟨#[99]⟩ : Str), (⟨#[100]⟩ : Str), (⟨#[101]⟩ : Str), (⟨#[102]⟩ : Str)] : List Str)[s5]?).bind fun y29 => (m_spec_l6Rd_pick N cd j116.1 3).bind fun x33 => some (x33.2, y29, ([] : List Str), ltb 0 x33.1) : Option (Nat × Str × (List Str) × Bool)).bind fun j117 => (m_spec_l91Flow_L22 N cd s3_c_1 N j117.1 j117.2.2.1 0).bind fun e22 => e22.go Ex.ret fun b22 => (appd s3_c_1 [(Step.mk j117.2.1 b22.2.1 j117.2.2.2)]).bind fun l67 => m_spec_l91Flow_L12 N cd n b22.1 (s3_c_1 ++ [(Step.mk j117.2.1 b22.2.1 j117.2.2.2)]) (s5 + 1)
 else m_spec_l91Flow_L12 N cd n j116.1 s3_c_1 (s5 + 1))
 else some (Ex.brk (s0_c_1, s3_c_1, s5)))

def m_spec_l91Flow (N : Nat) (cd : List UInt8) (p : Nat) : Option ((Flow) × Nat) := (m_spec_l6Rd_pick N cd p 5).bind fun x9 => (m_spec_l91Flow_L12 N cd N x9.2 ([] : List Step) 0).bind fun e12 => e12.go (fun r => r) fun b12 => (m_spec_l6Rd_pick N cd b12.1 40).bind fun x70 => (bif eqb x70.1 0 then (m_spec_l6Rd_pick N cd x70.2 3).bind fun x75 => (geti ([0, 99, 100] : List Int) x75.1).bind fun y76 => some ((Flow.mk y76 b12.2.1), x75.2)
 else (bif eqb x70.1 1 then (geti b12.2.1 (((b12.2.1.length : Nat) : Int) - 1)).bind fun y89 => (b12.2.1[0]?).bind fun y93 => some ((Flow.mk (w64 (1 + x9.1)) (b12.2.1.set 0 (Step.mk y93.name ([y89.name] : List Str) y93.undo))), x70.2)
 else (bif eqb x70.1 2 then (b12.2.1[0]?).bind fun y100 => some ((Flow.mk (w64 (1 + x9.1)) (b12.2.1.set 0 (Step.mk y100.name ([(⟨#[122, 122]⟩ : Str)] : List Str) y100.undo))), x70.2)
 else some ((Flow.mk (w64 (1 + x9.1)) b12.2.1), x70.2))))

set_option maxHeartbeats 4000000 in
theorem c_spec_l91Flow (N : Nat) (cd : List UInt8) (p : Nat) (res : (Flow) × Nat) (h : m_spec_l91Flow N cd p = some res) (w : World) {u0 ccd : Nat} {acd : Option Addr} (hr : (blkC u0 86 [.slice acd cd.length ccd, .int .i64 ((p : Nat) : Int)]).A w) (hcd : bytesL.rd w [u0] [.slice acd cd.length ccd] cd) : Ret Try.prog 26 [.pointer (some ⟨u0, 0, none⟩)] w [u0] fun v w' => ∃ a1 c1 F1, v = .agg #[.int .i64 res.1.ver, .slice a1 res.1.steps.length c1] ∧ NewM w w' [u0] [owC stepsL F1 [.slice a1 res.1.steps.length c1] res.1.steps, blkC u0 86 [.slice acd cd.length ccd, .int .i64 ((res.2 : Nat) : Int)]] := by
  have mhcd := rd_max hcd
  unfold m_spec_l91Flow at h
  refine ret_enter Try.func26 rfl Try.ntmps26 rfl (hp_one hr (by simp [blkC])) ?_
  refine cw_seq ?_
  refine cw_region ?_
  refine wl_u rfl (ow_allocA Tb rfl rfl rfl rfl (fun g2 => kk_wl ?_))
  refine wl_nil ?_
  refine ex_seq ?_
  refine cw_seq ?_
  refine cw_region ?_
  refine wl_u rfl (ow_y (yh_move rfl rfl) rfl rfl (kk_wl ?_))
  obtain ⟨x9, hx9, h⟩ := bd h
  have mp9 := pick_lt hx9 (by decide)
  refine wl_u rfl (ow_cM0 1 rfl hb45 rfl rfl (fun w hw => c_spec_l6Rd_pick N _ _ _ _ hx9 w (hw.at (i := 1) rfl) (Lay.atR (i := 1) hcd rfl hw)) rfl rfl (kk_wl ?_))
  refine wl_u rfl (ow_y (yh_arW rfl rfl rfl rfl) rfl rfl (kk_wl ?_))
  refine wl_u rfl (ow_lit0 Tb rfl rfl rfl rfl rfl rfl (fun g11 => kk_chg (c' := owC stepsL [g11] [.slice (some ⟨g11, 0, none⟩) 0 0] ([] : List Step)) 0 rfl (fun w hA => own_stepsL ([] : List Step) hA rfl (by simp [maxLen])) rfl (kk_wl ?_)))
  refine wl_u rfl (ow_y (yh_buildA rfl rfl (by kernel_rfl)) rfl rfl (kk_wl ?_))
  refine wl_u rfl (ow_allocA Tb rfl rfl rfl rfl (fun g3 => kk_wl ?_))
  refine wl_u rfl (ow_storeA Tb (k := 0) rfl rfl rfl rfl rfl rfl rfl rfl rfl (kk_wl ?_))
  refine wl_nil ?_
  refine ex_seq ?_
  refine cw_seq ?_
  refine cw_region ?_
  refine wl_u rfl (ow_lit1 Tb rfl rfl rfl rfl rfl rfl rfl rfl rfl rfl (fun g13 => kk_chg (c' := owC strsL [g13] [.slice (some ⟨g13, 0, none⟩) 6 6] ([(⟨#[97]⟩ : Str), (⟨#[98]⟩ : Str), (⟨#[99]⟩ : Str), (⟨#[100]⟩ : Str), (⟨#[101]⟩ : Str), (⟨#[102]⟩ : Str)] : List Str)) 0 rfl (fun w hA => own_strsL ([(⟨#[97]⟩ : Str), (⟨#[98]⟩ : Str), (⟨#[99]⟩ : Str), (⟨#[100]⟩ : Str), (⟨#[101]⟩ : Str), (⟨#[102]⟩ : Str)] : List Str) hA rfl (by simp [maxLen])) rfl (kk_wl ?_)))
  refine wl_u rfl (ow_y (yh_assign rfl rfl) rfl rfl (kk_wl ?_))
  refine wl_nil ?_
  refine ex_seq ?_
  refine cw_seq ?_
  refine cw_seq ?_
  refine cw_region ?_
  refine wl_u rfl (ow_y (yh_assign rfl rfl) rfl rfl (kk_wl ?_))
  refine wl_nil ?_
  refine ex_seq ?_
  refine cw_block ?_
  obtain ⟨e12, he12, hk12⟩ := bd h
  clear h
  refine cw_loopG (σ := Nat × Nat × (List Step) × Nat × (Option Addr) × Nat × (List Nat)) (fun s => m_spec_l91Flow_L12 N cd s.1 s.2.1 s.2.2.1 s.2.2.2.1 = some e12) (fun s => [(0, .pointer (some ⟨u0, 0, none⟩)), (2, .pointer (some ⟨g2, 0, none⟩)), (3, .pointer (some ⟨g3, 0, none⟩)), (4, .slice (some ⟨g13, 0, none⟩) 6 6), (5, .int .i64 ((s.2.2.2.1 : Nat) : Int))]) (fun s => [blkC u0 86 [.slice acd cd.length ccd, .int .i64 ((s.2.1 : Nat) : Int)], blkC g2 25 [.int .i64 0, .slice none 0 0], blkC g3 25 [.int .i64 (w64 (1 + x9.1)), .slice s.2.2.2.2.1 s.2.2.1.length s.2.2.2.2.2.1], owC stepsL s.2.2.2.2.2.2 [.slice s.2.2.2.2.1 s.2.2.1.length s.2.2.2.2.2.1] s.2.2.1, owC strsL [g13] [.slice (some ⟨g13, 0, none⟩) 6 6] ([(⟨#[97]⟩ : Str), (⟨#[98]⟩ : Str), (⟨#[99]⟩ : Str), (⟨#[100]⟩ : Str), (⟨#[101]⟩ : Str), (⟨#[102]⟩ : Str)] : List Str)]) (fun s => s.1) (N, x9.2, ([] : List Step), 0, (some ⟨g11, 0, none⟩), 0, [g11]) [3, 4, 1, 2, 0] he12 ⟨rfl, rfl, rfl, rfl, rfl, trivial⟩ rfl (fun KL s he12 hn12 => ?_)
  obtain ⟨n12, s0_c_1, s3_c_1, s5, as3_c_1, cs3_c_1, Fs3_c_1⟩ := s
  simp only at he12 hn12 ⊢
  rcases n12 with _ | n12
  · exact nosome he12
  have h := he12; rw [m_spec_l91Flow_L12] at h
  refine cw_seq ?_
  refine cw_seq ?_
  refine cw_region ?_
  refine wl_u rfl (ow_y (yh_move rfl rfl) rfl rfl (kk_wl ?_))
  refine wl_u rfl (ow_y (yh_move rfl rfl) rfl rfl (kk_wl ?_))
  refine wl_u rfl (ow_y (yh_lenS Tb rfl rfl rfl rfl) rfl rfl (kk_wl ?_))
  refine wl_u rfl (ow_y (yh_cmpI rfl rfl rfl rfl) rfl rfl (kk_wl ?_))
  refine wl_nil ?_
  refine ex_seq ?_
  refine cw_split rfl (fun cc1 => ?_) (fun cc1 => ?_)
  · skip
    replace h := bt cc1 h
    have q1 := ltb_true.1 cc1
    refine cw_skip ?_
    refine ex_seq ?_
    refine cw_seq ?_
    refine cw_block ?_
    obtain ⟨j116, he116, hk116⟩ := bd h
    clear h
    refine cw_cut (σ := Unit) (fun s => True) (fun s => [(0, .pointer (some ⟨u0, 0, none⟩)), (2, .pointer (some ⟨g2, 0, none⟩)), (3, .pointer (some ⟨g3, 0, none⟩)), (4, .slice (some ⟨g13, 0, none⟩) 6 6), (5, .int .i64 ((s5 : Nat) : Int)), (26, .bool j116.2)]) (fun s => [blkC u0 86 [.slice acd cd.length ccd, .int .i64 ((j116.1 : Nat) : Int)], blkC g2 25 [.int .i64 0, .slice none 0 0], blkC g3 25 [.int .i64 (w64 (1 + x9.1)), .slice as3_c_1 s3_c_1.length cs3_c_1], owC stepsL Fs3_c_1 [.slice as3_c_1 s3_c_1.length cs3_c_1] s3_c_1, owC strsL [g13] [.slice (some ⟨g13, 0, none⟩) 6 6] ([(⟨#[97]⟩ : Str), (⟨#[98]⟩ : Str), (⟨#[99]⟩ : Str), (⟨#[100]⟩ : Str), (⟨#[101]⟩ : Str), (⟨#[102]⟩ : Str)] : List Str)]) (fun s hI => ?_) (fun KL hn116 => ?_)
    · skip
      have h := hk116
      refine cw_split rfl (fun cc2 => ?_) (fun cc2 => ?_)
      · skip
        replace h := bt cc2 h
        obtain ⟨j117, he117, hk117⟩ := bd h
        clear h
        refine cw_cut (σ := Nat × (Option Addr) × Nat × (List Nat)) (fun s => True) (fun s => [(0, .pointer (some ⟨u0, 0, none⟩)), (2, .pointer (some ⟨g2, 0, none⟩)), (3, .pointer (some ⟨g3, 0, none⟩)), (4, .slice (some ⟨g13, 0, none⟩) 6 6), (5, .int .i64 ((s5 : Nat) : Int)), (6, .pointer (some ⟨s.1, 0, none⟩))]) (fun s => [blkC u0 86 [.slice acd cd.length ccd, .int .i64 ((j117.1 : Nat) : Int)], blkC g2 25 [.int .i64 0, .slice none 0 0], blkC g3 25 [.int .i64 (w64 (1 + x9.1)), .slice as3_c_1 s3_c_1.length cs3_c_1], owC stepsL Fs3_c_1 [.slice as3_c_1 s3_c_1.length cs3_c_1] s3_c_1, owC strsL [g13] [.slice (some ⟨g13, 0, none⟩) 6 6] ([(⟨#[97]⟩ : Str), (⟨#[98]⟩ : Str), (⟨#[99]⟩ : Str), (⟨#[100]⟩ : Str), (⟨#[101]⟩ : Str), (⟨#[102]⟩ : Str)] : List Str), blkC s.1 28 [.string j117.2.1, .slice s.2.1 j117.2.2.1.length s.2.2.1, .bool j117.2.2.2], owC strsL s.2.2.2 [.slice s.2.1 j117.2.2.1.length s.2.2.1] j117.2.2.1]) (fun s hI => ?_) (fun KL hn117 => ?_)
        · skip
          obtain ⟨g6, ak117_6_c_1, ck117_6_c_1, Fk117_6_c_1⟩ := s
          simp only at ⊢
          have h := hk117
          refine cw_seq ?_
          refine cw_seq ?_
          refine cw_region ?_
          refine wl_u rfl (ow_y (yh_assign rfl rfl) rfl rfl (kk_wl ?_))
          refine wl_nil ?_
          refine ex_seq ?_
          refine cw_block ?_
          obtain ⟨e22, he22, hk22⟩ := bd h
          clear h
          refine cw_loopG (σ := Nat × Nat × (List Str) × Nat × (Option Addr) × Nat × (List Nat)) (fun s => m_spec_l91Flow_L22 N cd s3_c_1 s.1 s.2.1 s.2.2.1 s.2.2.2.1 = some e22) (fun s => [(0, .pointer (some ⟨u0, 0, none⟩)), (2, .pointer (some ⟨g2, 0, none⟩)), (3, .pointer (some ⟨g3, 0, none⟩)), (4, .slice (some ⟨g13, 0, none⟩) 6 6), (5, .int .i64 ((s5 : Nat) : Int)), (6, .pointer (some ⟨g6, 0, none⟩)), (7, .int .i64 ((s.2.2.2.1 : Nat) : Int))]) (fun s => [blkC u0 86 [.slice acd cd.length ccd, .int .i64 ((s.2.1 : Nat) : Int)], blkC g2 25 [.int .i64 0, .slice none 0 0], blkC g3 25 [.int .i64 (w64 (1 + x9.1)), .slice as3_c_1 s3_c_1.length cs3_c_1], owC stepsL Fs3_c_1 [.slice as3_c_1 s3_c_1.length cs3_c_1] s3_c_1, owC strsL [g13] [.slice (some ⟨g13, 0, none⟩) 6 6] ([(⟨#[97]⟩ : Str), (⟨#[98]⟩ : Str), (⟨#[99]⟩ : Str), (⟨#[100]⟩ : Str), (⟨#[101]⟩ : Str), (⟨#[102]⟩ : Str)] : List Str), blkC g6 28 [.string j117.2.1, .slice s.2.2.2.2.1 s.2.2.1.length s.2.2.2.2.2.1, .bool j117.2.2.2], owC strsL s.2.2.2.2.2.2 [.slice s.2.2.2.2.1 s.2.2.1.length s.2.2.2.2.2.1] s.2.2.1]) (fun s => s.1) (N, j117.1, j117.2.2.1, 0, ak117_6_c_1, ck117_6_c_1, Fk117_6_c_1) [0, 1, 2, 3, 4, 5, 6] he22 ⟨rfl, rfl, rfl, rfl, rfl, rfl, rfl, trivial⟩ rfl (fun KL s he22 hn22 => ?_)
          obtain ⟨n22, s0_c_1, s6_c_1, s7, as6_c_1, cs6_c_1, Fs6_c_1⟩ := s
          simp only at he22 hn22 ⊢
          rcases n22 with _ | n22
          · exact nosome he22
          have h := he22; rw [m_spec_l91Flow_L22] at h
          refine cw_seq ?_
          refine cw_seq ?_
          refine cw_region ?_
          refine wl_u rfl (ow_y (yh_move rfl rfl) rfl rfl (kk_wl ?_))
          refine wl_u rfl (ow_y (yh_field Tb rfl rfl rfl) rfl rfl (kk_wl ?_))
          refine wl_u rfl (ow_y (yh_loadB Tb (k := 2) rfl rfl rfl rfl rfl) rfl rfl (kk_wl ?_))
          refine wl_know (s3_c_1.length ≤ 9223372036854775807) (fun w hw => own_max 3 rfl hw) (fun mo39 => ?_)
          refine wl_u rfl (ow_y (yh_lenS Tb rfl rfl rfl rfl) rfl rfl (kk_wl ?_))
          refine wl_u rfl (ow_y (yh_cmpI rfl rfl rfl rfl) rfl rfl (kk_wl ?_))
          refine wl_nil ?_
          refine ex_seq ?_
          refine cw_split rfl (fun cc3 => ?_) (fun cc3 => ?_)
          · skip
            replace h := bt cc3 h
            have q2 := ltb_true.1 cc3
            refine cw_skip ?_
            refine ex_seq ?_
            refine cw_seq ?_
            refine cw_block ?_
            refine cw_seq ?_
            refine cw_region ?_
            refine wl_u rfl (ow_y (yh_move rfl rfl) rfl rfl (kk_wl ?_))
            obtain ⟨x44, hx44, h⟩ := bd h
            have mp44 := pick_lt hx44 (by decide)
            refine wl_u rfl (ow_cM0 0 rfl hb45 rfl rfl (fun w hw => c_spec_l6Rd_pick N _ _ _ _ hx44 w (hw.at (i := 0) rfl) (Lay.atR (i := 0) hcd rfl hw)) rfl rfl (kk_wl ?_))
            refine wl_u rfl (ow_y (yh_cmpI rfl rfl rfl rfl) rfl rfl (kk_wl ?_))
            refine wl_u rfl (ow_y (yh_move rfl rfl) rfl rfl (kk_wl ?_))
            refine wl_s rfl rfl (fun cc4 => ?_) (fun cc4 => ?_)
            · skip
              replace h := bt cc4 h
              have q3 := eqb_true.1 cc4
              refine wl_g rfl rfl (ow_y (yh_field Tb rfl rfl rfl) rfl rfl (kk_wl ?_))
              refine wl_g rfl rfl (ow_y (yh_loadB Tb (k := 5) rfl rfl rfl rfl rfl) rfl rfl (kk_wl ?_))
              refine wl_know (s6_c_1.length ≤ 9223372036854775807) (fun w hw => own_max 6 rfl hw) (fun mo49 => ?_)
              refine wl_g rfl rfl (ow_y (yh_lenS Tb rfl rfl rfl rfl) rfl rfl (kk_wl ?_))
              refine wl_g rfl rfl (ow_y (yh_cmpI rfl rfl rfl rfl) rfl rfl (kk_wl ?_))
              refine wl_u rfl (ow_y (yh_pickT rfl rfl rfl) rfl rfl (kk_wl ?_))
              refine wl_nil ?_
              refine ex_seq ?_
              refine cw_split rfl (fun cc5 => ?_) (fun cc5 => ?_)
              · skip
                replace h := bt cc5 h
                have q4 := ltb_true.1 cc5
                refine cw_dr [0, 1, 2, 3, 4, 5, 6, 7] [9, 10, 11] [blkC u0 86 [.slice acd cd.length ccd, .int .i64 ((x44.2 : Nat) : Int)], blkC g2 25 [.int .i64 0, .slice none 0 0], blkC g3 25 [.int .i64 (w64 (1 + x9.1)), .slice as3_c_1 s3_c_1.length cs3_c_1], owC stepsL Fs3_c_1 [.slice as3_c_1 s3_c_1.length cs3_c_1] s3_c_1, owC strsL [g13] [.slice (some ⟨g13, 0, none⟩) 6 6] ([(⟨#[97]⟩ : Str), (⟨#[98]⟩ : Str), (⟨#[99]⟩ : Str), (⟨#[100]⟩ : Str), (⟨#[101]⟩ : Str), (⟨#[102]⟩ : Str)] : List Str), blkC g6 28 [.string j117.2.1, .slice as6_c_1 s6_c_1.length cs6_c_1, .bool j117.2.2.2], owC strsL Fs6_c_1 [.slice as6_c_1 s6_c_1.length cs6_c_1] s6_c_1] (by kernel_rfl) ?_
                refine wd_take (i := 0) [0, 1, 2, 3, 4, 5, 6] rfl rfl rfl rfl rfl (by kernel_rfl) (by kernel_rfl) (fun _ _ _ _ h => h) (yh_field Tb rfl rfl rfl) ?_
                refine wd_take (i := 1) [0, 1, 2, 3, 4, 5, 6] rfl rfl rfl rfl rfl (by kernel_rfl) (by kernel_rfl) (fun _ _ _ _ h => h) (yh_loadB Tb (k := 5) rfl rfl rfl rfl rfl) ?_
                refine wd_take (i := 2) [0, 1, 2, 3, 4, 5, 6] rfl rfl rfl rfl rfl (by kernel_rfl) (by kernel_rfl) (fun _ _ _ _ h => h) (yh_field Tb rfl rfl rfl) ?_
                refine wd_take (i := 3) [0, 1, 2, 3, 4, 5, 6] rfl rfl rfl rfl rfl (by kernel_rfl) (by kernel_rfl) (fun _ _ _ _ h => h) (yh_loadB Tb (k := 2) rfl rfl rfl rfl rfl) ?_
                refine wd_take (i := 4) [0, 1, 2, 3, 4, 5, 6] rfl rfl rfl rfl rfl (by kernel_rfl) (by kernel_rfl) (fun _ _ _ _ h => h) (yh_move rfl rfl) ?_
                obtain ⟨y57, hy57, h⟩ := bd h
                refine wd_ex (fun g => as3_c_1 = some ⟨g, 0, none⟩) (fun w hw => by exact own_addrK 3 rfl hy57 hw) (fun g57 hg57 => ?_)
                subst hg57
                refine wd_take (i := 5) [0, 1, 2, 3, 4, 5, 6] rfl rfl rfl rfl rfl (by kernel_rfl) (by kernel_rfl) (fun _ _ _ _ h => h) (yh_idx Tb (k := s7) rfl rfl rfl rfl (get_lt hy57) rfl rfl) ?_
                refine wd_take (i := 6) [0, 1, 2, 3, 4, 5, 6] rfl rfl rfl rfl rfl (by kernel_rfl) (by kernel_rfl) (fun _ _ _ _ h => h) (yh_field Tb rfl rfl rfl) ?_
                refine wd_take (i := 7) [0, 1, 2, 3, 4, 5, 6] rfl rfl rfl rfl rfl (by kernel_rfl) (by kernel_rfl) (fun _ _ _ _ h => h) (yh_loadOE Tb 3 0 (fun w F cs h => by obtain ⟨a, c, rfl, _⟩ := stepL_ow h; rfl) rfl rfl rfl rfl hy57) ?_
                refine wd_one 8 rfl rfl (by kernel_rfl) (ow_lit1 Tb rfl rfl rfl rfl rfl rfl rfl rfl rfl rfl (fun g60 => kk_chg (c' := owC strsL [g60] [.slice (some ⟨g60, 0, none⟩) 1 1] ([y57.name] : List Str)) 0 rfl (fun w hA => own_strsL ([y57.name] : List Str) hA rfl (by simp [maxLen])) rfl (kk_wd [1, 2, 3, 4, 5, 6, 7] (by kernel_rfl) ?_)))
                obtain ⟨hll61, h⟩ := bd_appd h
                refine wd_one 9 rfl rfl (by kernel_rfl) (ow_appP Tb (i := 7) rfl rfl rfl rfl rfl (fun w hw => rdo (A := strsL) 0 rfl hw) rfl rfl rfl rfl hll61 (by decide) rfl rfl (fun a61 c61 F61 => kk_wdT rfl ?_))
                refine wd_one 10 rfl rfl (by kernel_rfl) (ow_y (yh_field Tb rfl rfl rfl) rfl rfl (kk_wdT rfl ?_))
                refine wd_one 11 rfl rfl (by kernel_rfl) (ow_store1 Tb (k := 7) rfl rfl rfl rfl rfl rfl rfl rfl rfl (kk_wdT rfl ?_))
                refine wd_done (by kernel_rfl) ?_
                refine ex_block_normal ?_
                refine ex_seq ?_
                refine cw_region ?_
                refine wl_u rfl (ow_y (yh_move rfl rfl) rfl rfl (kk_wl ?_))
                refine wl_u rfl (ow_y (yh_arI rfl rfl rfl rfl (by omega)) rfl rfl (kk_wl ?_))
                refine wl_u rfl (ow_y (yh_assign rfl rfl) rfl rfl (kk_wl ?_))
                refine wl_nil ?_
                exact ex_next [3, 4, 5, 6, 7, 0, 1] (hn22 (n22, x44.2, (s6_c_1 ++ ([y57.name] : List Str)), s7 + 1, a61, c61, F61) (Nat.lt_succ_self _) h) ⟨rfl, rfl, rfl, rfl, rfl, rfl, rfl, trivial⟩ (by kernel_rfl)
              · skip
                replace h := bf cc5 h
                have q5 := ltb_false.1 cc5
                refine cw_skip ?_
                refine ex_block_normal ?_
                refine ex_seq ?_
                refine cw_region ?_
                refine wl_u rfl (ow_y (yh_move rfl rfl) rfl rfl (kk_wl ?_))
                refine wl_u rfl (ow_y (yh_arI rfl rfl rfl rfl (by omega)) rfl rfl (kk_wl ?_))
                refine wl_u rfl (ow_y (yh_assign rfl rfl) rfl rfl (kk_wl ?_))
                refine wl_nil ?_
                exact ex_next [0, 1, 2, 3, 4, 5, 6] (hn22 (n22, x44.2, s6_c_1, s7 + 1, as6_c_1, cs6_c_1, Fs6_c_1) (Nat.lt_succ_self _) h) ⟨rfl, rfl, rfl, rfl, rfl, rfl, rfl, trivial⟩ (by kernel_rfl)
            · skip
              replace h := bf cc4 h
              have q6 := eqb_false.1 cc4
              refine wl_n rfl rfl rfl rfl ?_
              refine wl_n rfl rfl rfl rfl ?_
              refine wl_n rfl rfl rfl rfl ?_
              refine wl_n rfl rfl rfl rfl ?_
              refine wl_u rfl (ow_y (yh_pickF rfl rfl rfl) rfl rfl (kk_wl ?_))
              refine wl_nil ?_
              refine ex_seq ?_
              refine cw_false rfl ?_
              refine cw_skip ?_
              refine ex_block_normal ?_
              refine ex_seq ?_
              refine cw_region ?_
              refine wl_u rfl (ow_y (yh_move rfl rfl) rfl rfl (kk_wl ?_))
              refine wl_u rfl (ow_y (yh_arI rfl rfl rfl rfl (by omega)) rfl rfl (kk_wl ?_))
              refine wl_u rfl (ow_y (yh_assign rfl rfl) rfl rfl (kk_wl ?_))
              refine wl_nil ?_
              exact ex_next [0, 1, 2, 3, 4, 5, 6] (hn22 (n22, x44.2, s6_c_1, s7 + 1, as6_c_1, cs6_c_1, Fs6_c_1) (Nat.lt_succ_self _) h) ⟨rfl, rfl, rfl, rfl, rfl, rfl, rfl, trivial⟩ (by kernel_rfl)
          · skip
            replace h := bf cc3 h
            have q7 := ltb_false.1 cc3
            refine cw_exit ?_
            refine ex_then_exit ?_
            refine ex_then_exit ?_
            obtain rfl := Option.some.inj h
            have h := go_brk hk22
            refine ex_block_exit ?_
            refine ex_seq ?_
            refine cw_region ?_
            refine wl_u rfl (ow_y (yh_field Tb rfl rfl rfl) rfl rfl (kk_wl ?_))
            refine wl_u rfl (ow_y (yh_loadB Tb (k := 2) rfl rfl rfl rfl rfl) rfl rfl (kk_wl ?_))
            refine wl_u rfl (ow_y (yh_loadBA Tb (k := 5) rfl rfl rfl rfl rfl rfl) rfl rfl (kk_wl ?_))
            refine wl_u rfl (ow_litA Tb rfl rfl rfl rfl rfl rfl (by decide) rfl rfl (fun g66 => kk_wl ?_))
            obtain ⟨hll67, h⟩ := bd_appd h
            refine wl_u rfl (ow_chg (c' := owC stepL Fs6_c_1 [.string j117.2.1, .slice as6_c_1 s6_c_1.length cs6_c_1, .bool j117.2.2.2] (Step.mk j117.2.1 s6_c_1 j117.2.2.2)) 7 rfl (fun w hA => stepL_mk (Step.mk j117.2.1 s6_c_1 j117.2.2.2) hA) rfl (ow_appE Tb (i := 5) (j := 0) (k := 1) rfl rfl rfl rfl rfl rfl rfl rfl rfl rfl rfl (app1 hll67) (by decide) rfl rfl (fun a67 c67 F67 => kk_wl ?_)))
            refine wl_u rfl (ow_y (yh_field Tb rfl rfl rfl) rfl rfl (kk_wl ?_))
            refine wl_u rfl (ow_store1 Tb (k := 4) rfl rfl rfl rfl rfl rfl rfl rfl rfl (kk_wl ?_))
            refine wl_nil ?_
            refine ex_block_normal ?_
            refine ex_seq ?_
            refine cw_region ?_
            refine wl_u rfl (ow_y (yh_move rfl rfl) rfl rfl (kk_wl ?_))
            refine wl_u rfl (ow_y (yh_arI rfl rfl rfl rfl (by omega)) rfl rfl (kk_wl ?_))
            refine wl_u rfl (ow_y (yh_assign rfl rfl) rfl rfl (kk_wl ?_))
            refine wl_nil ?_
            exact ex_next [3, 4, 0, 1, 5] (hn12 (n12, s0_c_1, (s3_c_1 ++ [(Step.mk j117.2.1 s6_c_1 j117.2.2.2)]), s5 + 1, a67, c67, F67) (Nat.lt_succ_self _) h) ⟨rfl, rfl, rfl, rfl, rfl, trivial⟩ (by kernel_rfl)
        · skip
          have h := he117
          refine cw_dr [0, 1, 2, 3, 5, 7, 8] [10] [blkC g2 25 [.int .i64 0, .slice none 0 0], blkC g3 25 [.int .i64 (w64 (1 + x9.1)), .slice as3_c_1 s3_c_1.length cs3_c_1], owC stepsL Fs3_c_1 [.slice as3_c_1 s3_c_1.length cs3_c_1] s3_c_1, owC strsL [g13] [.slice (some ⟨g13, 0, none⟩) 6 6] ([(⟨#[97]⟩ : Str), (⟨#[98]⟩ : Str), (⟨#[99]⟩ : Str), (⟨#[100]⟩ : Str), (⟨#[101]⟩ : Str), (⟨#[102]⟩ : Str)] : List Str)] (by kernel_rfl) ?_
          refine wd_take (i := 0) [1, 2, 3, 4] rfl rfl rfl rfl rfl (by kernel_rfl) (by kernel_rfl) (fun _ _ _ _ h => h) (yh_move rfl rfl) ?_
          refine wd_take (i := 1) [1, 2, 3, 4] rfl rfl rfl rfl rfl (by kernel_rfl) (by kernel_rfl) (fun _ _ _ _ h => h) (yh_move rfl rfl) ?_
          obtain ⟨y29, hy29, h⟩ := bd h
          refine wd_take (i := 2) [1, 2, 3, 4] rfl rfl rfl rfl rfl (by kernel_rfl) (by kernel_rfl) (fun _ _ _ _ h => h) (yh_idx Tb (k := s5) rfl rfl rfl rfl (get_lt hy29) rfl rfl) ?_
          refine wd_take (i := 3) [1, 2, 3, 4] rfl rfl rfl rfl rfl (by kernel_rfl) (by kernel_rfl) (fun _ _ _ _ h => h) (yh_loadO0 Tb 3 rfl rfl rfl rfl rfl hy29 rfl) ?_
          refine wd_take (i := 5) [1, 2, 3, 4] rfl rfl rfl rfl rfl (by kernel_rfl) (by kernel_rfl) (fun _ _ _ _ h => h) (yh_move rfl rfl) ?_
          refine wd_all [4, 6, 9] (by kernel_rfl) (by simp) (fun i hi => ?_)
          simp only [List.mem_cons, List.not_mem_nil, or_false] at hi
          rcases hi with rfl | rfl | rfl
          · refine ⟨_, rfl, rfl, ?_⟩
            refine (ow_lit0 Tb rfl rfl rfl rfl rfl rfl (fun g31 => kk_chg (c' := owC strsL [g31] [.slice (some ⟨g31, 0, none⟩) 0 0] ([] : List Str)) 0 rfl (fun w hA => own_strsL ([] : List Str) hA rfl (by simp [maxLen])) rfl (kk_wd [2, 3, 4, 5] (by kernel_rfl) ?_)))
            refine wd_all [6, 9] (by kernel_rfl) (by simp) (fun i hi => ?_)
            simp only [List.mem_cons, List.not_mem_nil, or_false] at hi
            rcases hi with rfl | rfl
            · refine ⟨_, rfl, rfl, ?_⟩
              obtain ⟨x33, hx33, h⟩ := bd h
              have mp33 := pick_lt hx33 (by decide)
              refine (ow_cM0 1 rfl hb45 rfl rfl (fun w hw => c_spec_l6Rd_pick N _ _ _ _ hx33 w (hw.at (i := 1) rfl) (Lay.atR (i := 1) hcd rfl hw)) rfl rfl (kk_wd [2, 3, 4, 5] (by kernel_rfl) ?_))
              refine wd_take (i := 7) [2, 3, 4, 5] rfl rfl rfl rfl rfl (by kernel_rfl) (by kernel_rfl) (fun _ _ _ _ h => h) (yh_cmpI rfl rfl rfl rfl) ?_
              refine wd_take (i := 8) [2, 3, 4, 5] rfl rfl rfl rfl rfl (by kernel_rfl) (by kernel_rfl) (fun _ _ _ _ h => h) (yh_buildA rfl rfl (by kernel_rfl)) ?_
              refine wd_one 9 rfl rfl (by kernel_rfl) (ow_allocA Tb rfl rfl rfl rfl (fun g6 => kk_wd [3, 4, 5, 6] (by kernel_rfl) ?_))
              refine wd_one 10 rfl rfl (by kernel_rfl) (ow_storeA Tb (k := 0) rfl rfl rfl rfl rfl rfl rfl rfl rfl (kk_wdT rfl ?_))
              refine wd_done (by kernel_rfl) ?_
              obtain rfl := Option.some.inj h
              exact ex_next [1, 3, 4, 5, 6, 0, 2] (hn117 (g6, (some ⟨g31, 0, none⟩), 0, [g31]) trivial) ⟨rfl, rfl, rfl, rfl, rfl, rfl, trivial⟩ (by kernel_rfl)
            · refine ⟨_, rfl, rfl, ?_⟩
              refine (ow_allocA Tb rfl rfl rfl rfl (fun g6 => kk_wd [3, 4, 5, 6] (by kernel_rfl) ?_))
              obtain ⟨x33, hx33, h⟩ := bd h
              have mp33 := pick_lt hx33 (by decide)
              refine wd_one 6 rfl rfl (by kernel_rfl) (ow_cM0 2 rfl hb45 rfl rfl (fun w hw => c_spec_l6Rd_pick N _ _ _ _ hx33 w (hw.at (i := 2) rfl) (Lay.atR (i := 2) hcd rfl hw)) rfl rfl (kk_wd [3, 4, 5, 6] (by kernel_rfl) ?_))
              refine wd_take (i := 7) [3, 4, 5, 6] rfl rfl rfl rfl rfl (by kernel_rfl) (by kernel_rfl) (fun _ _ _ _ h => h) (yh_cmpI rfl rfl rfl rfl) ?_
              refine wd_take (i := 8) [3, 4, 5, 6] rfl rfl rfl rfl rfl (by kernel_rfl) (by kernel_rfl) (fun _ _ _ _ h => h) (yh_buildA rfl rfl (by kernel_rfl)) ?_
              refine wd_one 10 rfl rfl (by kernel_rfl) (ow_storeA Tb (k := 1) rfl rfl rfl rfl rfl rfl rfl rfl rfl (kk_wdT rfl ?_))
              refine wd_done (by kernel_rfl) ?_
              obtain rfl := Option.some.inj h
              exact ex_next [1, 3, 4, 5, 6, 0, 2] (hn117 (g6, (some ⟨g31, 0, none⟩), 0, [g31]) trivial) ⟨rfl, rfl, rfl, rfl, rfl, rfl, trivial⟩ (by kernel_rfl)
          · refine ⟨_, rfl, rfl, ?_⟩
            obtain ⟨x33, hx33, h⟩ := bd h
            have mp33 := pick_lt hx33 (by decide)
            refine (ow_cM0 0 rfl hb45 rfl rfl (fun w hw => c_spec_l6Rd_pick N _ _ _ _ hx33 w (hw.at (i := 0) rfl) (Lay.atR (i := 0) hcd rfl hw)) rfl rfl (kk_wd [1, 2, 3, 4] (by kernel_rfl) ?_))
            refine wd_take (i := 7) [1, 2, 3, 4] rfl rfl rfl rfl rfl (by kernel_rfl) (by kernel_rfl) (fun _ _ _ _ h => h) (yh_cmpI rfl rfl rfl rfl) ?_
            refine wd_all [4, 9] (by kernel_rfl) (by simp) (fun i hi => ?_)
            simp only [List.mem_cons, List.not_mem_nil, or_false] at hi
            rcases hi with rfl | rfl
            · refine ⟨_, rfl, rfl, ?_⟩
              refine (ow_lit0 Tb rfl rfl rfl rfl rfl rfl (fun g31 => kk_chg (c' := owC strsL [g31] [.slice (some ⟨g31, 0, none⟩) 0 0] ([] : List Str)) 0 rfl (fun w hA => own_strsL ([] : List Str) hA rfl (by simp [maxLen])) rfl (kk_wd [2, 3, 4, 5] (by kernel_rfl) ?_)))
              refine wd_take (i := 8) [2, 3, 4, 5] rfl rfl rfl rfl rfl (by kernel_rfl) (by kernel_rfl) (fun _ _ _ _ h => h) (yh_buildA rfl rfl (by kernel_rfl)) ?_
              refine wd_one 9 rfl rfl (by kernel_rfl) (ow_allocA Tb rfl rfl rfl rfl (fun g6 => kk_wd [3, 4, 5, 6] (by kernel_rfl) ?_))
              refine wd_one 10 rfl rfl (by kernel_rfl) (ow_storeA Tb (k := 0) rfl rfl rfl rfl rfl rfl rfl rfl rfl (kk_wdT rfl ?_))
              refine wd_done (by kernel_rfl) ?_
              obtain rfl := Option.some.inj h
              exact ex_next [2, 3, 4, 5, 6, 0, 1] (hn117 (g6, (some ⟨g31, 0, none⟩), 0, [g31]) trivial) ⟨rfl, rfl, rfl, rfl, rfl, rfl, trivial⟩ (by kernel_rfl)
            · refine ⟨_, rfl, rfl, ?_⟩
              refine (ow_allocA Tb rfl rfl rfl rfl (fun g6 => kk_wd [2, 3, 4, 5] (by kernel_rfl) ?_))
              refine wd_one 4 rfl rfl (by kernel_rfl) (ow_lit0 Tb rfl rfl rfl rfl rfl rfl (fun g31 => kk_chg (c' := owC strsL [g31] [.slice (some ⟨g31, 0, none⟩) 0 0] ([] : List Str)) 0 rfl (fun w hA => own_strsL ([] : List Str) hA rfl (by simp [maxLen])) rfl (kk_wd [3, 4, 5, 6] (by kernel_rfl) ?_)))
              refine wd_take (i := 8) [3, 4, 5, 6] rfl rfl rfl rfl rfl (by kernel_rfl) (by kernel_rfl) (fun _ _ _ _ h => h) (yh_buildA rfl rfl (by kernel_rfl)) ?_
              refine wd_one 10 rfl rfl (by kernel_rfl) (ow_storeA Tb (k := 1) rfl rfl rfl rfl rfl rfl rfl rfl rfl (kk_wdT rfl ?_))
              refine wd_done (by kernel_rfl) ?_
              obtain rfl := Option.some.inj h
              exact ex_next [2, 3, 4, 5, 6, 0, 1] (hn117 (g6, (some ⟨g31, 0, none⟩), 0, [g31]) trivial) ⟨rfl, rfl, rfl, rfl, rfl, rfl, trivial⟩ (by kernel_rfl)
          · refine ⟨_, rfl, rfl, ?_⟩
            refine (ow_allocA Tb rfl rfl rfl rfl (fun g6 => kk_wd [2, 3, 4, 5] (by kernel_rfl) ?_))
            refine wd_all [4, 6] (by kernel_rfl) (by simp) (fun i hi => ?_)
            simp only [List.mem_cons, List.not_mem_nil, or_false] at hi
            rcases hi with rfl | rfl
            · refine ⟨_, rfl, rfl, ?_⟩
              refine (ow_lit0 Tb rfl rfl rfl rfl rfl rfl (fun g31 => kk_chg (c' := owC strsL [g31] [.slice (some ⟨g31, 0, none⟩) 0 0] ([] : List Str)) 0 rfl (fun w hA => own_strsL ([] : List Str) hA rfl (by simp [maxLen])) rfl (kk_wd [3, 4, 5, 6] (by kernel_rfl) ?_)))
              obtain ⟨x33, hx33, h⟩ := bd h
              have mp33 := pick_lt hx33 (by decide)
              refine wd_one 6 rfl rfl (by kernel_rfl) (ow_cM0 2 rfl hb45 rfl rfl (fun w hw => c_spec_l6Rd_pick N _ _ _ _ hx33 w (hw.at (i := 2) rfl) (Lay.atR (i := 2) hcd rfl hw)) rfl rfl (kk_wd [3, 4, 5, 6] (by kernel_rfl) ?_))
              refine wd_take (i := 7) [3, 4, 5, 6] rfl rfl rfl rfl rfl (by kernel_rfl) (by kernel_rfl) (fun _ _ _ _ h => h) (yh_cmpI rfl rfl rfl rfl) ?_
              refine wd_take (i := 8) [3, 4, 5, 6] rfl rfl rfl rfl rfl (by kernel_rfl) (by kernel_rfl) (fun _ _ _ _ h => h) (yh_buildA rfl rfl (by kernel_rfl)) ?_
              refine wd_one 10 rfl rfl (by kernel_rfl) (ow_storeA Tb (k := 2) rfl rfl rfl rfl rfl rfl rfl rfl rfl (kk_wdT rfl ?_))
              refine wd_done (by kernel_rfl) ?_
              obtain rfl := Option.some.inj h
              exact ex_next [1, 3, 4, 5, 6, 0, 2] (hn117 (g6, (some ⟨g31, 0, none⟩), 0, [g31]) trivial) ⟨rfl, rfl, rfl, rfl, rfl, rfl, trivial⟩ (by kernel_rfl)
            · refine ⟨_, rfl, rfl, ?_⟩
              obtain ⟨x33, hx33, h⟩ := bd h
              have mp33 := pick_lt hx33 (by decide)
              refine (ow_cM0 1 rfl hb45 rfl rfl (fun w hw => c_spec_l6Rd_pick N _ _ _ _ hx33 w (hw.at (i := 1) rfl) (Lay.atR (i := 1) hcd rfl hw)) rfl rfl (kk_wd [2, 3, 4, 5] (by kernel_rfl) ?_))
              refine wd_take (i := 7) [2, 3, 4, 5] rfl rfl rfl rfl rfl (by kernel_rfl) (by kernel_rfl) (fun _ _ _ _ h => h) (yh_cmpI rfl rfl rfl rfl) ?_
              refine wd_one 4 rfl rfl (by kernel_rfl) (ow_lit0 Tb rfl rfl rfl rfl rfl rfl (fun g31 => kk_chg (c' := owC strsL [g31] [.slice (some ⟨g31, 0, none⟩) 0 0] ([] : List Str)) 0 rfl (fun w hA => own_strsL ([] : List Str) hA rfl (by simp [maxLen])) rfl (kk_wd [3, 4, 5, 6] (by kernel_rfl) ?_)))
              refine wd_take (i := 8) [3, 4, 5, 6] rfl rfl rfl rfl rfl (by kernel_rfl) (by kernel_rfl) (fun _ _ _ _ h => h) (yh_buildA rfl rfl (by kernel_rfl)) ?_
              refine wd_one 10 rfl rfl (by kernel_rfl) (ow_storeA Tb (k := 2) rfl rfl rfl rfl rfl rfl rfl rfl rfl (kk_wdT rfl ?_))
              refine wd_done (by kernel_rfl) ?_
              obtain rfl := Option.some.inj h
              exact ex_next [2, 3, 4, 5, 6, 0, 1] (hn117 (g6, (some ⟨g31, 0, none⟩), 0, [g31]) trivial) ⟨rfl, rfl, rfl, rfl, rfl, rfl, trivial⟩ (by kernel_rfl)
      · skip
        replace h := bf cc2 h
        refine cw_skip ?_
        refine ex_block_normal ?_
        refine ex_seq ?_
        refine cw_region ?_
        refine wl_u rfl (ow_y (yh_move rfl rfl) rfl rfl (kk_wl ?_))
        refine wl_u rfl (ow_y (yh_arI rfl rfl rfl rfl (by omega)) rfl rfl (kk_wl ?_))
        refine wl_u rfl (ow_y (yh_assign rfl rfl) rfl rfl (kk_wl ?_))
        refine wl_nil ?_
        exact ex_next [0, 1, 2, 3, 4] (hn12 (n12, j116.1, s3_c_1, s5 + 1, as3_c_1, cs3_c_1, Fs3_c_1) (Nat.lt_succ_self _) h) ⟨rfl, rfl, rfl, rfl, rfl, trivial⟩ (by kernel_rfl)
    · skip
      have h := he116
      refine cw_region ?_
      refine wl_u rfl (ow_y (yh_move rfl rfl) rfl rfl (kk_wl ?_))
      obtain ⟨x21, hx21, h⟩ := bd h
      have mp21 := pick_lt hx21 (by decide)
      refine wl_u rfl (ow_cM0 0 rfl hb45 rfl rfl (fun w hw => c_spec_l6Rd_pick N _ _ _ _ hx21 w (hw.at (i := 0) rfl) (Lay.atR (i := 0) hcd rfl hw)) rfl rfl (kk_wl ?_))
      refine wl_u rfl (ow_y (yh_cmpI rfl rfl rfl rfl) rfl rfl (kk_wl ?_))
      refine wl_u rfl (ow_y (yh_move rfl rfl) rfl rfl (kk_wl ?_))
      refine wl_s rfl rfl (fun cc6 => ?_) (fun cc6 => ?_)
      · skip
        replace h := bt cc6 h
        have q8 := ltb_true.1 cc6
        refine wl_n rfl rfl rfl rfl ?_
        refine wl_n rfl rfl rfl rfl ?_
        refine wl_u rfl (ow_y (yh_pickT rfl rfl rfl) rfl rfl (kk_wl ?_))
        refine wl_nil ?_
        obtain rfl := Option.some.inj h
        exact ex_next [0, 1, 2, 3, 4] (hn116 () trivial) ⟨rfl, rfl, rfl, rfl, rfl, rfl, trivial⟩ (by kernel_rfl)
      · skip
        replace h := bf cc6 h
        have q9 := ltb_false.1 cc6
        refine wl_g rfl rfl (ow_y (yh_move rfl rfl) rfl rfl (kk_wl ?_))
        refine wl_g rfl rfl (ow_y (yh_cmpI rfl rfl rfl rfl) rfl rfl (kk_wl ?_))
        refine wl_u rfl (ow_y (yh_pickF rfl rfl rfl) rfl rfl (kk_wl ?_))
        refine wl_nil ?_
        obtain rfl := Option.some.inj h
        exact ex_next [0, 1, 2, 3, 4] (hn116 () trivial) ⟨rfl, rfl, rfl, rfl, rfl, rfl, trivial⟩ (by kernel_rfl)
  · skip
    replace h := bf cc1 h
    have q10 := ltb_false.1 cc1
    refine cw_exit ?_
    refine ex_then_exit ?_
    refine ex_then_exit ?_
    obtain rfl := Option.some.inj h
    have h := go_brk hk12
    refine ex_block_exit ?_
    refine ex_seq ?_
    refine cw_seq ?_
    refine cw_seq ?_
    refine cw_region ?_
    refine wl_u rfl (ow_y (yh_move rfl rfl) rfl rfl (kk_wl ?_))
    obtain ⟨x70, hx70, h⟩ := bd h
    have mp70 := pick_lt hx70 (by decide)
    refine wl_u rfl (ow_cM0 0 rfl hb45 rfl rfl (fun w hw => c_spec_l6Rd_pick N _ _ _ _ hx70 w (hw.at (i := 0) rfl) (Lay.atR (i := 0) hcd rfl hw)) rfl rfl (kk_wl ?_))
    refine wl_nil ?_
    refine ex_seq ?_
    refine cw_block ?_
    refine cw_seq ?_
    refine cw_region ?_
    refine wl_u rfl (ow_y (yh_cmpI rfl rfl rfl rfl) rfl rfl (kk_wl ?_))
    refine wl_u rfl (ow_y (yh_assign rfl rfl) rfl rfl (kk_wl ?_))
    refine wl_nil ?_
    refine ex_seq ?_
    refine cw_split rfl (fun cc7 => ?_) (fun cc7 => ?_)
    · skip
      replace h := bt cc7 h
      have q11 := eqb_true.1 cc7
      refine cw_region ?_
      refine wl_u rfl (ow_lit1 Tb rfl rfl rfl rfl rfl rfl rfl rfl rfl rfl (fun g73 => kk_chg (c' := owC intsL [g73] [.slice (some ⟨g73, 0, none⟩) 3 3] ([0, 99, 100] : List Int)) 0 rfl (fun w hA => own_intsL ([0, 99, 100] : List Int) hA rfl (by simp [maxLen])) rfl (kk_wl ?_)))
      refine wl_u rfl (ow_y (yh_move rfl rfl) rfl rfl (kk_wl ?_))
      obtain ⟨x75, hx75, h⟩ := bd h
      have mp75 := pick_lt hx75 (by decide)
      refine wl_u rfl (ow_cM0 1 rfl hb45 rfl rfl (fun w hw => c_spec_l6Rd_pick N _ _ _ _ hx75 w (hw.at (i := 1) rfl) (Lay.atR (i := 1) hcd rfl hw)) rfl rfl (kk_wl ?_))
      obtain ⟨y76, zy76, h⟩ := bd h
      obtain ⟨iy76, hy76⟩ := geti_some zy76
      refine wl_u rfl (ow_y (yh_idx Tb (k := x75.1.toNat) rfl rfl rfl iy76 (get_lt hy76) rfl rfl) rfl rfl (kk_wl ?_))
      refine wl_u rfl (ow_y (yh_loadO0 Tb 1 rfl rfl rfl rfl rfl hy76 rfl) rfl rfl (kk_wl ?_))
      refine wl_u rfl (ow_y (yh_field Tb rfl rfl rfl) rfl rfl (kk_wl ?_))
      refine wl_u rfl (ow_store1 Tb (k := 3) rfl rfl rfl rfl rfl rfl rfl rfl rfl (kk_wl ?_))
      refine wl_nil ?_
      refine ex_block_normal ?_
      refine ex_seq ?_
      refine cw_seq ?_
      refine cw_region ?_
      refine wl_u rfl (ow_y (yh_loadBA Tb (k := 0) rfl rfl rfl rfl rfl rfl) rfl rfl (kk_wl ?_))
      refine wl_u rfl (ow_storeA Tb (k := 3) rfl rfl rfl rfl rfl rfl rfl rfl rfl (kk_wl ?_))
      refine wl_nil ?_
      refine ex_seq ?_
      refine cw_ret ?_
      obtain rfl := Option.some.inj h
      exact ex_r1 Tb rfl (.cellA 0 rfl rfl rfl rfl rfl) (fun wq hq => ⟨_, rfl, hq.ext, ⟨as3_c_1, cs3_c_1, Fs3_c_1, rfl, NewM.sel [4, 2] hq rfl⟩⟩)
    · skip
      replace h := bf cc7 h
      have q12 := eqb_false.1 cc7
      refine cw_seq ?_
      refine cw_region ?_
      refine wl_u rfl (ow_y (yh_cmpI rfl rfl rfl rfl) rfl rfl (kk_wl ?_))
      refine wl_u rfl (ow_y (yh_assign rfl rfl) rfl rfl (kk_wl ?_))
      refine wl_nil ?_
      refine ex_seq ?_
      refine cw_split rfl (fun cc8 => ?_) (fun cc8 => ?_)
      · skip
        replace h := bt cc8 h
        have q13 := eqb_true.1 cc8
        refine cw_dr [0, 1, 2, 3, 4, 5, 6, 7, 8, 9, 10, 12, 13] [14] [blkC u0 86 [.slice acd cd.length ccd, .int .i64 ((x70.2 : Nat) : Int)], blkC g2 25 [.int .i64 0, .slice none 0 0], blkC g3 25 [.int .i64 (w64 (1 + x9.1)), .slice as3_c_1 s3_c_1.length cs3_c_1], owC stepsL Fs3_c_1 [.slice as3_c_1 s3_c_1.length cs3_c_1] s3_c_1, owC strsL [g13] [.slice (some ⟨g13, 0, none⟩) 6 6] ([(⟨#[97]⟩ : Str), (⟨#[98]⟩ : Str), (⟨#[99]⟩ : Str), (⟨#[100]⟩ : Str), (⟨#[101]⟩ : Str), (⟨#[102]⟩ : Str)] : List Str)] (by kernel_rfl) ?_
        refine wd_take (i := 0) [0, 1, 2, 3, 4] rfl rfl rfl rfl rfl (by kernel_rfl) (by kernel_rfl) (fun _ _ _ _ h => h) (yh_field Tb rfl rfl rfl) ?_
        refine wd_take (i := 1) [0, 1, 2, 3, 4] rfl rfl rfl rfl rfl (by kernel_rfl) (by kernel_rfl) (fun _ _ _ _ h => h) (yh_loadB Tb (k := 2) rfl rfl rfl rfl rfl) ?_
        refine wd_take (i := 2) [0, 1, 2, 3, 4] rfl rfl rfl rfl rfl (by kernel_rfl) (by kernel_rfl) (fun _ _ _ _ h => h) (yh_field Tb rfl rfl rfl) ?_
        refine wd_take (i := 3) [0, 1, 2, 3, 4] rfl rfl rfl rfl rfl (by kernel_rfl) (by kernel_rfl) (fun _ _ _ _ h => h) (yh_loadB Tb (k := 2) rfl rfl rfl rfl rfl) ?_
        refine wd_take (i := 4) [0, 1, 2, 3, 4] rfl rfl rfl rfl rfl (by kernel_rfl) (by kernel_rfl) (fun _ _ _ _ h => h) (yh_field Tb rfl rfl rfl) ?_
        refine wd_take (i := 5) [0, 1, 2, 3, 4] rfl rfl rfl rfl rfl (by kernel_rfl) (by kernel_rfl) (fun _ _ _ _ h => h) (yh_loadB Tb (k := 2) rfl rfl rfl rfl rfl) ?_
        refine wd_know (s3_c_1.length ≤ 9223372036854775807) (fun w hw => own_max 3 rfl hw) (fun mo87 => ?_)
        refine wd_take (i := 6) [0, 1, 2, 3, 4] rfl rfl rfl rfl rfl (by kernel_rfl) (by kernel_rfl) (fun _ _ _ _ h => h) (yh_lenS Tb rfl rfl rfl rfl) ?_
        refine wd_take (i := 7) [0, 1, 2, 3, 4] rfl rfl rfl rfl rfl (by kernel_rfl) (by kernel_rfl) (fun _ _ _ _ h => h) (yh_arI rfl rfl rfl rfl (by omega)) ?_
        obtain ⟨y89, zy89, h⟩ := bd h
        obtain ⟨iy89, hy89⟩ := geti_some zy89
        refine wd_ex (fun g => as3_c_1 = some ⟨g, 0, none⟩) (fun w hw => by exact own_addrK 3 rfl hy89 hw) (fun g89 hg89 => ?_)
        subst hg89
        refine wd_take (i := 8) [0, 1, 2, 3, 4] rfl rfl rfl rfl rfl (by kernel_rfl) (by kernel_rfl) (fun _ _ _ _ h => h) (yh_idx Tb (k := (((s3_c_1.length : Nat) : Int) - 1).toNat) rfl rfl rfl iy89 (get_lt hy89) rfl rfl) ?_
        refine wd_take (i := 9) [0, 1, 2, 3, 4] rfl rfl rfl rfl rfl (by kernel_rfl) (by kernel_rfl) (fun _ _ _ _ h => h) (yh_field Tb rfl rfl rfl) ?_
        refine wd_take (i := 10) [0, 1, 2, 3, 4] rfl rfl rfl rfl rfl (by kernel_rfl) (by kernel_rfl) (fun _ _ _ _ h => h) (yh_loadOE Tb 3 0 (fun w F cs h => by obtain ⟨a, c, rfl, _⟩ := stepL_ow h; rfl) rfl rfl rfl rfl hy89) ?_
        refine wd_one 11 rfl rfl (by kernel_rfl) (ow_lit1 Tb rfl rfl rfl rfl rfl rfl rfl rfl rfl rfl (fun g92 => kk_chg (c' := owC strsL [g92] [.slice (some ⟨g92, 0, none⟩) 1 1] ([y89.name] : List Str)) 0 rfl (fun w hA => own_strsL ([y89.name] : List Str) hA rfl (by simp [maxLen])) rfl (kk_wd [1, 2, 3, 4, 5] (by kernel_rfl) ?_)))
        obtain ⟨y93, hy93, h⟩ := bd h
        refine wd_take (i := 12) [1, 2, 3, 4, 5] rfl rfl rfl rfl rfl (by kernel_rfl) (by kernel_rfl) (fun _ _ _ _ h => h) (yh_idx Tb (k := 0) rfl rfl rfl rfl (get_lt hy93) rfl rfl) ?_
        refine wd_take (i := 13) [1, 2, 3, 4, 5] rfl rfl rfl rfl rfl (by kernel_rfl) (by kernel_rfl) (fun _ _ _ _ h => h) (yh_field Tb rfl rfl rfl) ?_
        refine wd_one 14 rfl rfl (by kernel_rfl) (ow_setFS Tb 4 0 1 (Step.mk y93.name ([y89.name] : List Str) y93.undo) (fun w F cs h hG => by obtain ⟨a, c, rfl, h2⟩ := stepL_ow h; exact stepL_mk (Step.mk y93.name ([y89.name] : List Str) y93.undo) hG) rfl rfl rfl rfl rfl rfl rfl rfl hy93 rfl (fun Fs183 => kk_wdT rfl ?_))
        refine wd_done (by kernel_rfl) ?_
        refine ex_block_normal ?_
        refine ex_seq ?_
        refine cw_seq ?_
        refine cw_region ?_
        refine wl_u rfl (ow_y (yh_loadBA Tb (k := 3) rfl rfl rfl rfl rfl rfl) rfl rfl (kk_wl ?_))
        refine wl_u rfl (ow_storeA Tb (k := 2) rfl rfl rfl rfl rfl rfl rfl rfl rfl (kk_wl ?_))
        refine wl_nil ?_
        refine ex_seq ?_
        refine cw_ret ?_
        refine ex_know (s3_c_1.length = (s3_c_1.set 0 (Step.mk y93.name ([y89.name] : List Str) y93.undo)).length) (fun w hw => own_lenK 1 rfl hw) (fun hn0_ => ?_)
        obtain rfl := Option.some.inj h
        exact ex_r1 Tb rfl (.cellA 0 rfl rfl rfl rfl rfl) (fun wq hq => ⟨_, rfl, hq.ext, ⟨(some ⟨g89, 0, none⟩), cs3_c_1, Fs183, (by simp only [hn0_]), (by simp only [← hn0_]; exact NewM.sel [1, 2] hq rfl)⟩⟩)
      · skip
        replace h := bf cc8 h
        have q14 := eqb_false.1 cc8
        refine cw_seq ?_
        refine cw_region ?_
        refine wl_u rfl (ow_y (yh_cmpI rfl rfl rfl rfl) rfl rfl (kk_wl ?_))
        refine wl_u rfl (ow_y (yh_assign rfl rfl) rfl rfl (kk_wl ?_))
        refine wl_nil ?_
        refine ex_seq ?_
        refine cw_split rfl (fun cc9 => ?_) (fun cc9 => ?_)
        · skip
          replace h := bt cc9 h
          have q15 := eqb_true.1 cc9
          refine cw_region ?_
          refine wl_u rfl (ow_y (yh_field Tb rfl rfl rfl) rfl rfl (kk_wl ?_))
          refine wl_u rfl (ow_y (yh_loadB Tb (k := 2) rfl rfl rfl rfl rfl) rfl rfl (kk_wl ?_))
          refine wl_u rfl (ow_lit1 Tb rfl rfl rfl rfl rfl rfl rfl rfl rfl rfl (fun g99 => kk_chg (c' := owC strsL [g99] [.slice (some ⟨g99, 0, none⟩) 1 1] ([(⟨#[122, 122]⟩ : Str)] : List Str)) 0 rfl (fun w hA => own_strsL ([(⟨#[122, 122]⟩ : Str)] : List Str) hA rfl (by simp [maxLen])) rfl (kk_wl ?_)))
          obtain ⟨y100, hy100, h⟩ := bd h
          refine wl_ex (fun g => as3_c_1 = some ⟨g, 0, none⟩) (fun w hw => by exact own_addrK 4 rfl hy100 hw) (fun g100 hg100 => ?_)
          subst hg100
          refine wl_u rfl (ow_y (yh_idx Tb (k := 0) rfl rfl rfl rfl (get_lt hy100) rfl rfl) rfl rfl (kk_wl ?_))
          refine wl_u rfl (ow_y (yh_field Tb rfl rfl rfl) rfl rfl (kk_wl ?_))
          refine wl_u rfl (ow_setFS Tb 4 0 1 (Step.mk y100.name ([(⟨#[122, 122]⟩ : Str)] : List Str) y100.undo) (fun w F cs h hG => by obtain ⟨a, c, rfl, h2⟩ := stepL_ow h; exact stepL_mk (Step.mk y100.name ([(⟨#[122, 122]⟩ : Str)] : List Str) y100.undo) hG) rfl rfl rfl rfl rfl rfl rfl rfl hy100 rfl (fun Fs186 => kk_wl ?_))
          refine wl_nil ?_
          refine ex_block_normal ?_
          refine ex_seq ?_
          refine cw_seq ?_
          refine cw_region ?_
          refine wl_u rfl (ow_y (yh_loadBA Tb (k := 3) rfl rfl rfl rfl rfl rfl) rfl rfl (kk_wl ?_))
          refine wl_u rfl (ow_storeA Tb (k := 2) rfl rfl rfl rfl rfl rfl rfl rfl rfl (kk_wl ?_))
          refine wl_nil ?_
          refine ex_seq ?_
          refine cw_ret ?_
          refine ex_know (s3_c_1.length = (s3_c_1.set 0 (Step.mk y100.name ([(⟨#[122, 122]⟩ : Str)] : List Str) y100.undo)).length) (fun w hw => own_lenK 1 rfl hw) (fun hn0_ => ?_)
          obtain rfl := Option.some.inj h
          exact ex_r1 Tb rfl (.cellA 0 rfl rfl rfl rfl rfl) (fun wq hq => ⟨_, rfl, hq.ext, ⟨(some ⟨g100, 0, none⟩), cs3_c_1, Fs186, (by simp only [hn0_]), (by simp only [← hn0_]; exact NewM.sel [1, 2] hq rfl)⟩⟩)
        · skip
          replace h := bf cc9 h
          have q16 := eqb_false.1 cc9
          refine cw_skip ?_
          refine ex_block_normal ?_
          refine ex_seq ?_
          refine cw_seq ?_
          refine cw_region ?_
          refine wl_u rfl (ow_y (yh_loadBA Tb (k := 2) rfl rfl rfl rfl rfl rfl) rfl rfl (kk_wl ?_))
          refine wl_u rfl (ow_storeA Tb (k := 1) rfl rfl rfl rfl rfl rfl rfl rfl rfl (kk_wl ?_))
          refine wl_nil ?_
          refine ex_seq ?_
          refine cw_ret ?_
          obtain rfl := Option.some.inj h
          exact ex_r1 Tb rfl (.cellA 0 rfl rfl rfl rfl rfl) (fun wq hq => ⟨_, rfl, hq.ext, ⟨as3_c_1, cs3_c_1, Fs3_c_1, rfl, NewM.sel [3, 1] hq rfl⟩⟩)

def m_spec_l6Rd_of (N : Nat) (cd : List UInt8) (p : Nat) (list_ : List Str) : Option ((Str) × Nat) := (m_spec_l6Rd_pick N cd p ((list_.length : Nat) : Int)).bind fun x9 => (geti list_ x9.1).bind fun y10 => some (y10, x9.2)

set_option maxHeartbeats 4000000 in
theorem c_spec_l6Rd_of (N : Nat) (cd : List UInt8) (p : Nat) (list_ : List Str) (res : (Str) × Nat) (h : m_spec_l6Rd_of N cd p list_ = some res) (w : World) {a_list_ : Option Addr} {c_list_ : Nat} {r ccd : Nat} {acd : Option Addr} (hr : (blkC r 86 [.slice acd cd.length ccd, .int .i64 ((p : Nat) : Int)]).A w) (hcd : bytesL.rd w [r] [.slice acd cd.length ccd] cd) (h_list_ : strsL.rd w [r] [.slice a_list_ list_.length c_list_] list_) : Ret Try.prog 65 [.pointer (some ⟨r, 0, none⟩), .slice a_list_ list_.length c_list_] w [r] fun v w' => v = .string res.1 ∧ NewM w w' [r] [blkC r 86 [.slice acd cd.length ccd, .int .i64 ((res.2 : Nat) : Int)]] := by
  have mh_list_ := rd_max h_list_
  have mhcd := rd_max hcd
  unfold m_spec_l6Rd_of at h
  refine ret_enter Try.func65 rfl Try.ntmps65 rfl (hp_one hr (by simp [blkC])) ?_
  refine cw_seq ?_
  refine cw_region ?_
  refine wl_u rfl (ow_y (yh_assign rfl rfl) rfl rfl (kk_wl ?_))
  refine wl_nil ?_
  refine ex_seq ?_
  refine cw_seq ?_
  refine cw_region ?_
  refine wl_u rfl (ow_y (yh_move rfl rfl) rfl rfl (kk_wl ?_))
  refine wl_u rfl (ow_y (yh_move rfl rfl) rfl rfl (kk_wl ?_))
  refine wl_u rfl (ow_y (yh_move rfl rfl) rfl rfl (kk_wl ?_))
  refine wl_u rfl (ow_y (yh_lenS Tb rfl rfl rfl rfl) rfl rfl (kk_wl ?_))
  obtain ⟨x9, hx9, h⟩ := bd h
  refine wl_u rfl (ow_cM0 0 rfl hb45 rfl rfl (fun w hw => c_spec_l6Rd_pick N _ _ _ _ hx9 w (hw.at (i := 0) rfl) (Lay.atR (i := 0) hcd rfl hw)) rfl rfl (kk_wl ?_))
  obtain ⟨y10, zy10, h⟩ := bd h
  obtain ⟨iy10, hy10⟩ := geti_some zy10
  obtain ⟨b10, o10, ha10⟩ := sl_addr h_list_ hy10
  subst ha10
  have hc10 := get_str h_list_ hy10
  refine wl_u rfl (ow_y (yh_idx Tb (k := x9.1.toNat) rfl rfl rfl iy10 (get_lt hy10) rfl rfl) rfl rfl (kk_wl ?_))
  refine wl_u rfl (ow_y (yh_loadA0 Tb rfl rfl rfl hc10 rfl) rfl rfl (kk_wl ?_))
  refine wl_u rfl (ow_y (yh_assign rfl rfl) rfl rfl (kk_wl ?_))
  refine wl_nil ?_
  refine ex_seq ?_
  refine cw_ret ?_
  obtain rfl := Option.some.inj h
  exact ex_r1 Tb rfl (.tmp rfl) (fun wq hq => ⟨_, rfl, hq.ext, ⟨rfl, NewM.sel [0] hq rfl⟩⟩)

def m_spec_l91Name (N : Nat) (cd : List UInt8) (p : Nat) : Option ((Str) × Nat) := (m_spec_l6Rd_pick N cd p 30).bind fun x4 => (bif eqb x4.1 0 then (m_spec_l6Rd_of N cd x4.2 ([(⟨#[]⟩ : Str), (⟨#[65]⟩ : Str), (⟨#[97, 98, 99, 100, 101, 102]⟩ : Str), (⟨#[97, 98, 99, 100, 101]⟩ : Str), (⟨#[97, 49]⟩ : Str)] : List Str)).bind fun x8 => some (x8.1, x8.2)
 else (m_spec_l6Rd_of N cd x4.2 ([(⟨#[97]⟩ : Str), (⟨#[98]⟩ : Str), (⟨#[99]⟩ : Str), (⟨#[100]⟩ : Str), (⟨#[101]⟩ : Str), (⟨#[102]⟩ : Str)] : List Str)).bind fun x11 => some (x11.1, x11.2))

set_option maxHeartbeats 4000000 in
theorem c_spec_l91Name (N : Nat) (cd : List UInt8) (p : Nat) (res : (Str) × Nat) (h : m_spec_l91Name N cd p = some res) (w : World) {r ccd : Nat} {acd : Option Addr} (hr : (blkC r 86 [.slice acd cd.length ccd, .int .i64 ((p : Nat) : Int)]).A w) (hcd : bytesL.rd w [r] [.slice acd cd.length ccd] cd) : Ret Try.prog 88 [.pointer (some ⟨r, 0, none⟩)] w [r] fun v w' => v = .string res.1 ∧ NewM w w' [r] [blkC r 86 [.slice acd cd.length ccd, .int .i64 ((res.2 : Nat) : Int)]] := by
  have mhcd := rd_max hcd
  unfold m_spec_l91Name at h
  refine ret_enter Try.func88 rfl Try.ntmps88 rfl (hp_one hr (by simp [blkC])) ?_
  refine cw_seq ?_
  refine cw_region ?_
  refine wl_u rfl (ow_y (yh_assign rfl rfl) rfl rfl (kk_wl ?_))
  refine wl_nil ?_
  refine ex_seq ?_
  refine cw_seq ?_
  refine cw_seq ?_
  refine cw_region ?_
  refine wl_u rfl (ow_y (yh_move rfl rfl) rfl rfl (kk_wl ?_))
  obtain ⟨x4, hx4, h⟩ := bd h
  have mp4 := pick_lt hx4 (by decide)
  refine wl_u rfl (ow_cM0 0 rfl hb45 rfl rfl (fun w hw => c_spec_l6Rd_pick N _ _ _ _ hx4 w (hw.at (i := 0) rfl) (Lay.atR (i := 0) hcd rfl hw)) rfl rfl (kk_wl ?_))
  refine wl_u rfl (ow_y (yh_cmpI rfl rfl rfl rfl) rfl rfl (kk_wl ?_))
  refine wl_nil ?_
  refine ex_seq ?_
  refine cw_split rfl (fun cc1 => ?_) (fun cc1 => ?_)
  · skip
    replace h := bt cc1 h
    have q1 := eqb_true.1 cc1
    refine cw_seq ?_
    refine cw_region ?_
    refine wl_u rfl (ow_y (yh_move rfl rfl) rfl rfl (kk_wl ?_))
    refine wl_u rfl (ow_lit1 Tb rfl rfl rfl rfl rfl rfl rfl rfl rfl rfl (fun g7 => kk_chg (c' := owC strsL [g7] [.slice (some ⟨g7, 0, none⟩) 5 5] ([(⟨#[]⟩ : Str), (⟨#[65]⟩ : Str), (⟨#[97, 98, 99, 100, 101, 102]⟩ : Str), (⟨#[97, 98, 99, 100, 101]⟩ : Str), (⟨#[97, 49]⟩ : Str)] : List Str)) 0 rfl (fun w hA => own_strsL ([(⟨#[]⟩ : Str), (⟨#[65]⟩ : Str), (⟨#[97, 98, 99, 100, 101, 102]⟩ : Str), (⟨#[97, 98, 99, 100, 101]⟩ : Str), (⟨#[97, 49]⟩ : Str)] : List Str) hA rfl (by simp [maxLen])) rfl (kk_wl ?_)))
    obtain ⟨x8, hx8, h⟩ := bd h
    refine wl_u rfl (ow_cM0 1 rfl hb65 rfl rfl (fun w hw => c_spec_l6Rd_of N _ _ _ _ hx8 w (hw.at (i := 1) rfl) (Lay.atR (i := 1) hcd rfl hw) (rdoR (A := strsL) 0 1 rfl rfl rfl hw)) rfl rfl (kk_wl ?_))
    refine wl_u rfl (ow_y (yh_assign rfl rfl) rfl rfl (kk_wl ?_))
    refine wl_nil ?_
    refine ex_seq ?_
    refine cw_ret ?_
    refine ex_then_ret ?_
    obtain rfl := Option.some.inj h
    exact ex_r1 Tb rfl (.tmp rfl) (fun wq hq => ⟨_, rfl, hq.ext, ⟨rfl, NewM.sel [0] hq rfl⟩⟩)
  · skip
    replace h := bf cc1 h
    have q2 := eqb_false.1 cc1
    refine cw_skip ?_
    refine ex_seq ?_
    refine cw_seq ?_
    refine cw_region ?_
    refine wl_u rfl (ow_y (yh_move rfl rfl) rfl rfl (kk_wl ?_))
    refine wl_u rfl (ow_lit1 Tb rfl rfl rfl rfl rfl rfl rfl rfl rfl rfl (fun g10 => kk_chg (c' := owC strsL [g10] [.slice (some ⟨g10, 0, none⟩) 6 6] ([(⟨#[97]⟩ : Str), (⟨#[98]⟩ : Str), (⟨#[99]⟩ : Str), (⟨#[100]⟩ : Str), (⟨#[101]⟩ : Str), (⟨#[102]⟩ : Str)] : List Str)) 0 rfl (fun w hA => own_strsL ([(⟨#[97]⟩ : Str), (⟨#[98]⟩ : Str), (⟨#[99]⟩ : Str), (⟨#[100]⟩ : Str), (⟨#[101]⟩ : Str), (⟨#[102]⟩ : Str)] : List Str) hA rfl (by simp [maxLen])) rfl (kk_wl ?_)))
    obtain ⟨x11, hx11, h⟩ := bd h
    refine wl_u rfl (ow_cM0 1 rfl hb65 rfl rfl (fun w hw => c_spec_l6Rd_of N _ _ _ _ hx11 w (hw.at (i := 1) rfl) (Lay.atR (i := 1) hcd rfl hw) (rdoR (A := strsL) 0 1 rfl rfl rfl hw)) rfl rfl (kk_wl ?_))
    refine wl_u rfl (ow_y (yh_assign rfl rfl) rfl rfl (kk_wl ?_))
    refine wl_nil ?_
    refine ex_seq ?_
    refine cw_ret ?_
    obtain rfl := Option.some.inj h
    exact ex_r1 Tb rfl (.tmp rfl) (fun wq hq => ⟨_, rfl, hq.ext, ⟨rfl, NewM.sel [0] hq rfl⟩⟩)

def m_spec_l91Step_L8 (N : Nat) (cd : List UInt8) (x7 : (Str) × Nat) : Nat → Nat → (List Str) → Nat → Option (Ex (Nat × List Str × Nat) ((Step) × Nat))
  | 0, _, _, _ => none
  | n + 1, s0_c_1, s3_c_1, s5 => (bif ltb ((s5 : Nat) : Int) 6 then (m_spec_l6Rd_pick N cd s0_c_1 4).bind fun x21 => (bif eqb x21.1 0 then (([(⟨#[97]⟩ : Str), (⟨#[98]⟩ : Str), (⟨#[99]⟩ : Str), (⟨#[100]⟩ : Str), (⟨#[101]⟩ : Str), (⟨#[102]⟩ : Str)] : List Str)[s5]?).bind fun y26 => (bif !(seq y26 x7.1) then (bif ltb ((s3_c_1.length : Nat) : Int) 4 then (appd s3_c_1 ([y26] : List Str)).bind fun l45 => m_spec_l91Step_L8 N cd x7 n x21.2 (s3_c_1 ++ ([y26] : List Str)) (s5 + 1)
 else m_spec_l91Step_L8 N cd x7 n x21.2 s3_c_1 (s5 + 1))
 else m_spec_l91Step_L8 N cd x7 n x21.2 s3_c_1 (s5 + 1))
 else m_spec_l91Step_L8 N cd x7 n x21.2 s3_c_1 (s5 + 1))
 else some (Ex.brk (s0_c_1, s3_c_1, s5)))

def m_spec_l91Step (N : Nat) (cd : List UInt8) (p : Nat) : Option ((Step) × Nat) := (m_spec_l91Name N cd p).bind fun x7 => (m_spec_l6Rd_pick N cd x7.2 3).bind fun x10 => (m_spec_l91Step_L8 N cd x7 N x10.2 ([] : List Str) 0).bind fun e8 => e8.go (fun r => r) fun b8 => (m_spec_l6Rd_pick N cd b8.1 30).bind fun x48 => (bif eqb x48.1 0 then some ((Step.mk x7.1 ([(⟨#[98]⟩ : Str), (⟨#[97]⟩ : Str)] : List Str) (ltb 0 x10.1)), x48.2)
 else (bif eqb x48.1 1 then some ((Step.mk x7.1 ([(⟨#[97]⟩ : Str), (⟨#[98]⟩ : Str), (⟨#[99]⟩ : Str), (⟨#[100]⟩ : Str), (⟨#[101]⟩ : Str)] : List Str) (ltb 0 x10.1)), x48.2)
 else (bif eqb x48.1 2 then some ((Step.mk x7.1 ([x7.1] : List Str) (ltb 0 x10.1)), x48.2)
 else some ((Step.mk x7.1 b8.2.1 (ltb 0 x10.1)), x48.2))))

set_option maxHeartbeats 4000000 in
theorem c_spec_l91Step (N : Nat) (cd : List UInt8) (p : Nat) (res : (Step) × Nat) (h : m_spec_l91Step N cd p = some res) (w : World) {r ccd : Nat} {acd : Option Addr} (hr : (blkC r 86 [.slice acd cd.length ccd, .int .i64 ((p : Nat) : Int)]).A w) (hcd : bytesL.rd w [r] [.slice acd cd.length ccd] cd) : Ret Try.prog 64 [.pointer (some ⟨r, 0, none⟩)] w [r] fun v w' => ∃ a1 c1 F1, v = .agg #[.string res.1.name, .slice a1 res.1.after.length c1, .bool res.1.undo] ∧ NewM w w' [r] [owC strsL F1 [.slice a1 res.1.after.length c1] res.1.after, blkC r 86 [.slice acd cd.length ccd, .int .i64 ((res.2 : Nat) : Int)]] := by
  have mhcd := rd_max hcd
  unfold m_spec_l91Step at h
  refine ret_enter Try.func64 rfl Try.ntmps64 rfl (hp_one hr (by simp [blkC])) ?_
  refine cw_seq ?_
  refine cw_region ?_
  refine wl_u rfl (ow_allocA Tb rfl rfl rfl rfl (fun g2 => kk_wl ?_))
  refine wl_nil ?_
  refine ex_seq ?_
  refine cw_seq ?_
  refine cw_region ?_
  refine wl_u rfl (ow_y (yh_move rfl rfl) rfl rfl (kk_wl ?_))
  obtain ⟨x7, hx7, h⟩ := bd h
  refine wl_u rfl (ow_cM0 1 rfl hb88 rfl rfl (fun w hw => c_spec_l91Name N _ _ _ hx7 w (hw.at (i := 1) rfl) (Lay.atR (i := 1) hcd rfl hw)) rfl rfl (kk_wl ?_))
  refine wl_u rfl (ow_lit0 Tb rfl rfl rfl rfl rfl rfl (fun g8 => kk_chg (c' := owC strsL [g8] [.slice (some ⟨g8, 0, none⟩) 0 0] ([] : List Str)) 0 rfl (fun w hA => own_strsL ([] : List Str) hA rfl (by simp [maxLen])) rfl (kk_wl ?_)))
  refine wl_u rfl (ow_y (yh_move rfl rfl) rfl rfl (kk_wl ?_))
  obtain ⟨x10, hx10, h⟩ := bd h
  have mp10 := pick_lt hx10 (by decide)
  refine wl_u rfl (ow_cM0 1 rfl hb45 rfl rfl (fun w hw => c_spec_l6Rd_pick N _ _ _ _ hx10 w (hw.at (i := 1) rfl) (Lay.atR (i := 1) hcd rfl hw)) rfl rfl (kk_wl ?_))
  refine wl_u rfl (ow_y (yh_cmpI rfl rfl rfl rfl) rfl rfl (kk_wl ?_))
  refine wl_u rfl (ow_y (yh_buildA rfl rfl (by kernel_rfl)) rfl rfl (kk_wl ?_))
  refine wl_u rfl (ow_allocA Tb rfl rfl rfl rfl (fun g3 => kk_wl ?_))
  refine wl_u rfl (ow_storeA Tb (k := 0) rfl rfl rfl rfl rfl rfl rfl rfl rfl (kk_wl ?_))
  refine wl_nil ?_
  refine ex_seq ?_
  refine cw_seq ?_
  refine cw_region ?_
  refine wl_u rfl (ow_lit1 Tb rfl rfl rfl rfl rfl rfl rfl rfl rfl rfl (fun g13 => kk_chg (c' := owC strsL [g13] [.slice (some ⟨g13, 0, none⟩) 6 6] ([(⟨#[97]⟩ : Str), (⟨#[98]⟩ : Str), (⟨#[99]⟩ : Str), (⟨#[100]⟩ : Str), (⟨#[101]⟩ : Str), (⟨#[102]⟩ : Str)] : List Str)) 0 rfl (fun w hA => own_strsL ([(⟨#[97]⟩ : Str), (⟨#[98]⟩ : Str), (⟨#[99]⟩ : Str), (⟨#[100]⟩ : Str), (⟨#[101]⟩ : Str), (⟨#[102]⟩ : Str)] : List Str) hA rfl (by simp [maxLen])) rfl (kk_wl ?_)))
  refine wl_u rfl (ow_y (yh_assign rfl rfl) rfl rfl (kk_wl ?_))
  refine wl_nil ?_
  refine ex_seq ?_
  refine cw_seq ?_
  refine cw_seq ?_
  refine cw_region ?_
  refine wl_u rfl (ow_y (yh_assign rfl rfl) rfl rfl (kk_wl ?_))
  refine wl_nil ?_
  refine ex_seq ?_
  refine cw_block ?_
  obtain ⟨e8, he8, hk8⟩ := bd h
  clear h
  refine cw_loopG (σ := Nat × Nat × (List Str) × Nat × (Option Addr) × Nat × (List Nat)) (fun s => m_spec_l91Step_L8 N cd x7 s.1 s.2.1 s.2.2.1 s.2.2.2.1 = some e8) (fun s => [(0, .pointer (some ⟨r, 0, none⟩)), (2, .pointer (some ⟨g2, 0, none⟩)), (3, .pointer (some ⟨g3, 0, none⟩)), (4, .slice (some ⟨g13, 0, none⟩) 6 6), (5, .int .i64 ((s.2.2.2.1 : Nat) : Int))]) (fun s => [blkC r 86 [.slice acd cd.length ccd, .int .i64 ((s.2.1 : Nat) : Int)], blkC g2 28 [.string (⟨#[]⟩ : Str), .slice none 0 0, .bool false], blkC g3 28 [.string x7.1, .slice s.2.2.2.2.1 s.2.2.1.length s.2.2.2.2.2.1, .bool (ltb 0 x10.1)], owC strsL s.2.2.2.2.2.2 [.slice s.2.2.2.2.1 s.2.2.1.length s.2.2.2.2.2.1] s.2.2.1, owC strsL [g13] [.slice (some ⟨g13, 0, none⟩) 6 6] ([(⟨#[97]⟩ : Str), (⟨#[98]⟩ : Str), (⟨#[99]⟩ : Str), (⟨#[100]⟩ : Str), (⟨#[101]⟩ : Str), (⟨#[102]⟩ : Str)] : List Str)]) (fun s => s.1) (N, x10.2, ([] : List Str), 0, (some ⟨g8, 0, none⟩), 0, [g8]) [2, 4, 1, 3, 0] he8 ⟨rfl, rfl, rfl, rfl, rfl, trivial⟩ rfl (fun KL s he8 hn8 => ?_)
  obtain ⟨n8, s0_c_1, s3_c_1, s5, as3_c_1, cs3_c_1, Fs3_c_1⟩ := s
  simp only at he8 hn8 ⊢
  rcases n8 with _ | n8
  · exact nosome he8
  have h := he8; rw [m_spec_l91Step_L8] at h
  refine cw_seq ?_
  refine cw_seq ?_
  refine cw_region ?_
  refine wl_u rfl (ow_y (yh_move rfl rfl) rfl rfl (kk_wl ?_))
  refine wl_u rfl (ow_y (yh_move rfl rfl) rfl rfl (kk_wl ?_))
  refine wl_u rfl (ow_y (yh_lenS Tb rfl rfl rfl rfl) rfl rfl (kk_wl ?_))
  refine wl_u rfl (ow_y (yh_cmpI rfl rfl rfl rfl) rfl rfl (kk_wl ?_))
  refine wl_nil ?_
  refine ex_seq ?_
  refine cw_split rfl (fun cc1 => ?_) (fun cc1 => ?_)
  · skip
    replace h := bt cc1 h
    have q1 := ltb_true.1 cc1
    refine cw_skip ?_
    refine ex_seq ?_
    refine cw_seq ?_
    refine cw_block ?_
    refine cw_seq ?_
    refine cw_dr [0, 2, 3, 4, 5, 6, 7, 8, 9, 10, 11, 12, 13, 14, 15, 16, 17] [] [blkC g2 28 [.string (⟨#[]⟩ : Str), .slice none 0 0, .bool false], blkC g3 28 [.string x7.1, .slice as3_c_1 s3_c_1.length cs3_c_1, .bool (ltb 0 x10.1)], owC strsL Fs3_c_1 [.slice as3_c_1 s3_c_1.length cs3_c_1] s3_c_1, owC strsL [g13] [.slice (some ⟨g13, 0, none⟩) 6 6] ([(⟨#[97]⟩ : Str), (⟨#[98]⟩ : Str), (⟨#[99]⟩ : Str), (⟨#[100]⟩ : Str), (⟨#[101]⟩ : Str), (⟨#[102]⟩ : Str)] : List Str)] (by kernel_rfl) ?_
    refine wd_take (i := 0) [1, 2, 3, 4] rfl rfl rfl rfl rfl (by kernel_rfl) (by kernel_rfl) (fun _ _ _ _ h => h) (yh_move rfl rfl) ?_
    obtain ⟨x21, hx21, h⟩ := bd h
    have mp21 := pick_lt hx21 (by decide)
    refine wd_one 1 rfl rfl (by kernel_rfl) (ow_cM0 0 rfl hb45 rfl rfl (fun w hw => c_spec_l6Rd_pick N _ _ _ _ hx21 w (hw.at (i := 0) rfl) (Lay.atR (i := 0) hcd rfl hw)) rfl rfl (kk_wd [1, 2, 3, 4] (by kernel_rfl) ?_))
    refine wd_take (i := 2) [1, 2, 3, 4] rfl rfl rfl rfl rfl (by kernel_rfl) (by kernel_rfl) (fun _ _ _ _ h => h) (yh_cmpI rfl rfl rfl rfl) ?_
    refine wd_take (i := 3) [1, 2, 3, 4] rfl rfl rfl rfl rfl (by kernel_rfl) (by kernel_rfl) (fun _ _ _ _ h => h) (yh_move rfl rfl) ?_
    refine wd_split 4 rfl rfl rfl (fun cc2 => ?_) (fun cc2 => ?_)
    · skip
      replace h := bt cc2 h
      have q2 := eqb_true.1 cc2
      refine wd_take (i := 4) [1, 2, 3, 4] rfl rfl rfl rfl rfl (by kernel_rfl) (by kernel_rfl) (fun _ _ _ _ h => h) (yh_move rfl rfl) ?_
      refine wd_take (i := 5) [1, 2, 3, 4] rfl rfl rfl rfl rfl (by kernel_rfl) (by kernel_rfl) (fun _ _ _ _ h => h) (yh_move rfl rfl) ?_
      obtain ⟨y26, hy26, h⟩ := bd h
      refine wd_take (i := 6) [1, 2, 3, 4] rfl rfl rfl rfl rfl (by kernel_rfl) (by kernel_rfl) (fun _ _ _ _ h => h) (yh_idx Tb (k := s5) rfl rfl rfl rfl (get_lt hy26) rfl rfl) ?_
      refine wd_take (i := 7) [1, 2, 3, 4] rfl rfl rfl rfl rfl (by kernel_rfl) (by kernel_rfl) (fun _ _ _ _ h => h) (yh_loadO0 Tb 3 rfl rfl rfl rfl rfl hy26 rfl) ?_
      refine wd_take (i := 8) [1, 2, 3, 4] rfl rfl rfl rfl rfl (by kernel_rfl) (by kernel_rfl) (fun _ _ _ _ h => h) (yh_field Tb rfl rfl rfl) ?_
      refine wd_take (i := 9) [1, 2, 3, 4] rfl rfl rfl rfl rfl (by kernel_rfl) (by kernel_rfl) (fun _ _ _ _ h => h) (yh_loadB Tb (k := 1) rfl rfl rfl rfl rfl) ?_
      refine wd_take (i := 10) [1, 2, 3, 4] rfl rfl rfl rfl rfl (by kernel_rfl) (by kernel_rfl) (fun _ _ _ _ h => h) (yh_cmpS rfl rfl rfl rfl) ?_
      refine wd_take (i := 11) [1, 2, 3, 4] rfl rfl rfl rfl rfl (by kernel_rfl) (by kernel_rfl) (fun _ _ _ _ h => h) (yh_pickT rfl rfl rfl) ?_
      refine wd_take (i := 12) [1, 2, 3, 4] rfl rfl rfl rfl rfl (by kernel_rfl) (by kernel_rfl) (fun _ _ _ _ h => h) (yh_move rfl rfl) ?_
      refine wd_split 13 rfl rfl rfl (fun cc3 => ?_) (fun cc3 => ?_)
      · skip
        replace h := bt cc3 h
        refine wd_take (i := 13) [1, 2, 3, 4] rfl rfl rfl rfl rfl (by kernel_rfl) (by kernel_rfl) (fun _ _ _ _ h => h) (yh_field Tb rfl rfl rfl) ?_
        refine wd_take (i := 14) [1, 2, 3, 4] rfl rfl rfl rfl rfl (by kernel_rfl) (by kernel_rfl) (fun _ _ _ _ h => h) (yh_loadB Tb (k := 1) rfl rfl rfl rfl rfl) ?_
        refine wd_know (s3_c_1.length ≤ 9223372036854775807) (fun w hw => own_max 3 rfl hw) (fun mo35 => ?_)
        refine wd_take (i := 15) [1, 2, 3, 4] rfl rfl rfl rfl rfl (by kernel_rfl) (by kernel_rfl) (fun _ _ _ _ h => h) (yh_lenS Tb rfl rfl rfl rfl) ?_
        refine wd_take (i := 16) [1, 2, 3, 4] rfl rfl rfl rfl rfl (by kernel_rfl) (by kernel_rfl) (fun _ _ _ _ h => h) (yh_cmpI rfl rfl rfl rfl) ?_
        refine wd_take (i := 17) [1, 2, 3, 4] rfl rfl rfl rfl rfl (by kernel_rfl) (by kernel_rfl) (fun _ _ _ _ h => h) (yh_pickT rfl rfl rfl) ?_
        refine wd_done (by kernel_rfl) ?_
        refine ex_seq ?_
        refine cw_split rfl (fun cc4 => ?_) (fun cc4 => ?_)
        · skip
          replace h := bt cc4 h
          have q3 := ltb_true.1 cc4
          refine cw_dr [0, 1, 2, 3, 4, 5] [7, 8, 9] [blkC r 86 [.slice acd cd.length ccd, .int .i64 ((x21.2 : Nat) : Int)], blkC g2 28 [.string (⟨#[]⟩ : Str), .slice none 0 0, .bool false], blkC g3 28 [.string x7.1, .slice as3_c_1 s3_c_1.length cs3_c_1, .bool (ltb 0 x10.1)], owC strsL Fs3_c_1 [.slice as3_c_1 s3_c_1.length cs3_c_1] s3_c_1, owC strsL [g13] [.slice (some ⟨g13, 0, none⟩) 6 6] ([(⟨#[97]⟩ : Str), (⟨#[98]⟩ : Str), (⟨#[99]⟩ : Str), (⟨#[100]⟩ : Str), (⟨#[101]⟩ : Str), (⟨#[102]⟩ : Str)] : List Str)] (by kernel_rfl) ?_
          refine wd_take (i := 0) [0, 1, 2, 3, 4] rfl rfl rfl rfl rfl (by kernel_rfl) (by kernel_rfl) (fun _ _ _ _ h => h) (yh_field Tb rfl rfl rfl) ?_
          refine wd_take (i := 1) [0, 1, 2, 3, 4] rfl rfl rfl rfl rfl (by kernel_rfl) (by kernel_rfl) (fun _ _ _ _ h => h) (yh_loadB Tb (k := 2) rfl rfl rfl rfl rfl) ?_
          refine wd_take (i := 2) [0, 1, 2, 3, 4] rfl rfl rfl rfl rfl (by kernel_rfl) (by kernel_rfl) (fun _ _ _ _ h => h) (yh_move rfl rfl) ?_
          refine wd_take (i := 3) [0, 1, 2, 3, 4] rfl rfl rfl rfl rfl (by kernel_rfl) (by kernel_rfl) (fun _ _ _ _ h => h) (yh_move rfl rfl) ?_
          refine wd_take (i := 4) [0, 1, 2, 3, 4] rfl rfl rfl rfl rfl (by kernel_rfl) (by kernel_rfl) (fun _ _ _ _ h => h) (yh_idx Tb (k := s5) rfl rfl rfl rfl (get_lt hy26) rfl rfl) ?_
          refine wd_take (i := 5) [0, 1, 2, 3, 4] rfl rfl rfl rfl rfl (by kernel_rfl) (by kernel_rfl) (fun _ _ _ _ h => h) (yh_loadO0 Tb 4 rfl rfl rfl rfl rfl hy26 rfl) ?_
          refine wd_one 6 rfl rfl (by kernel_rfl) (ow_lit1 Tb rfl rfl rfl rfl rfl rfl rfl rfl rfl rfl (fun g44 => kk_chg (c' := owC strsL [g44] [.slice (some ⟨g44, 0, none⟩) 1 1] ([y26] : List Str)) 0 rfl (fun w hA => own_strsL ([y26] : List Str) hA rfl (by simp [maxLen])) rfl (kk_wd [1, 2, 3, 4, 5] (by kernel_rfl) ?_)))
          obtain ⟨hll45, h⟩ := bd_appd h
          refine wd_one 7 rfl rfl (by kernel_rfl) (ow_appP Tb (i := 4) rfl rfl rfl rfl rfl (fun w hw => rdo (A := strsL) 0 rfl hw) rfl rfl rfl rfl hll45 (by decide) rfl rfl (fun a45 c45 F45 => kk_wdT rfl ?_))
          refine wd_one 8 rfl rfl (by kernel_rfl) (ow_y (yh_field Tb rfl rfl rfl) rfl rfl (kk_wdT rfl ?_))
          refine wd_one 9 rfl rfl (by kernel_rfl) (ow_store1 Tb (k := 4) rfl rfl rfl rfl rfl rfl rfl rfl rfl (kk_wdT rfl ?_))
          refine wd_done (by kernel_rfl) ?_
          refine ex_block_normal ?_
          refine ex_seq ?_
          refine cw_region ?_
          refine wl_u rfl (ow_y (yh_move rfl rfl) rfl rfl (kk_wl ?_))
          refine wl_u rfl (ow_y (yh_arI rfl rfl rfl rfl (by omega)) rfl rfl (kk_wl ?_))
          refine wl_u rfl (ow_y (yh_assign rfl rfl) rfl rfl (kk_wl ?_))
          refine wl_nil ?_
          exact ex_next [3, 4, 0, 1, 5] (hn8 (n8, x21.2, (s3_c_1 ++ ([y26] : List Str)), s5 + 1, a45, c45, F45) (Nat.lt_succ_self _) h) ⟨rfl, rfl, rfl, rfl, rfl, trivial⟩ (by kernel_rfl)
        · skip
          replace h := bf cc4 h
          have q4 := ltb_false.1 cc4
          refine cw_skip ?_
          refine ex_block_normal ?_
          refine ex_seq ?_
          refine cw_region ?_
          refine wl_u rfl (ow_y (yh_move rfl rfl) rfl rfl (kk_wl ?_))
          refine wl_u rfl (ow_y (yh_arI rfl rfl rfl rfl (by omega)) rfl rfl (kk_wl ?_))
          refine wl_u rfl (ow_y (yh_assign rfl rfl) rfl rfl (kk_wl ?_))
          refine wl_nil ?_
          exact ex_next [0, 1, 2, 3, 4] (hn8 (n8, x21.2, s3_c_1, s5 + 1, as3_c_1, cs3_c_1, Fs3_c_1) (Nat.lt_succ_self _) h) ⟨rfl, rfl, rfl, rfl, rfl, trivial⟩ (by kernel_rfl)
      · skip
        replace h := bf cc3 h
        refine wd_skip (i := 13) [1, 2, 3, 4] rfl rfl rfl rfl (by kernel_rfl) (by kernel_rfl) (fun _ _ _ h => h) ?_
        refine wd_skip (i := 14) [1, 2, 3, 4] rfl rfl rfl rfl (by kernel_rfl) (by kernel_rfl) (fun _ _ _ h => h) ?_
        refine wd_skip (i := 15) [1, 2, 3, 4] rfl rfl rfl rfl (by kernel_rfl) (by kernel_rfl) (fun _ _ _ h => h) ?_
        refine wd_skip (i := 16) [1, 2, 3, 4] rfl rfl rfl rfl (by kernel_rfl) (by kernel_rfl) (fun _ _ _ h => h) ?_
        refine wd_take (i := 17) [1, 2, 3, 4] rfl rfl rfl rfl rfl (by kernel_rfl) (by kernel_rfl) (fun _ _ _ _ h => h) (yh_pickF rfl rfl rfl) ?_
        refine wd_done (by kernel_rfl) ?_
        refine ex_seq ?_
        refine cw_false rfl ?_
        refine cw_skip ?_
        refine ex_block_normal ?_
        refine ex_seq ?_
        refine cw_region ?_
        refine wl_u rfl (ow_y (yh_move rfl rfl) rfl rfl (kk_wl ?_))
        refine wl_u rfl (ow_y (yh_arI rfl rfl rfl rfl (by omega)) rfl rfl (kk_wl ?_))
        refine wl_u rfl (ow_y (yh_assign rfl rfl) rfl rfl (kk_wl ?_))
        refine wl_nil ?_
        exact ex_next [0, 1, 2, 3, 4] (hn8 (n8, x21.2, s3_c_1, s5 + 1, as3_c_1, cs3_c_1, Fs3_c_1) (Nat.lt_succ_self _) h) ⟨rfl, rfl, rfl, rfl, rfl, trivial⟩ (by kernel_rfl)
    · skip
      replace h := bf cc2 h
      have q5 := eqb_false.1 cc2
      refine wd_skip (i := 4) [1, 2, 3, 4] rfl rfl rfl rfl (by kernel_rfl) (by kernel_rfl) (fun _ _ _ h => h) ?_
      refine wd_skip (i := 5) [1, 2, 3, 4] rfl rfl rfl rfl (by kernel_rfl) (by kernel_rfl) (fun _ _ _ h => h) ?_
      refine wd_skip (i := 6) [1, 2, 3, 4] rfl rfl rfl rfl (by kernel_rfl) (by kernel_rfl) (fun _ _ _ h => h) ?_
      refine wd_skip (i := 7) [1, 2, 3, 4] rfl rfl rfl rfl (by kernel_rfl) (by kernel_rfl) (fun _ _ _ h => h) ?_
      refine wd_skip (i := 8) [1, 2, 3, 4] rfl rfl rfl rfl (by kernel_rfl) (by kernel_rfl) (fun _ _ _ h => h) ?_
      refine wd_skip (i := 9) [1, 2, 3, 4] rfl rfl rfl rfl (by kernel_rfl) (by kernel_rfl) (fun _ _ _ h => h) ?_
      refine wd_skip (i := 10) [1, 2, 3, 4] rfl rfl rfl rfl (by kernel_rfl) (by kernel_rfl) (fun _ _ _ h => h) ?_
      refine wd_take (i := 11) [1, 2, 3, 4] rfl rfl rfl rfl rfl (by kernel_rfl) (by kernel_rfl) (fun _ _ _ _ h => h) (yh_pickF rfl rfl rfl) ?_
      refine wd_take (i := 12) [1, 2, 3, 4] rfl rfl rfl rfl rfl (by kernel_rfl) (by kernel_rfl) (fun _ _ _ _ h => h) (yh_move rfl rfl) ?_
      refine wd_split 13 rfl rfl rfl nofun (fun _ => ?_)
      refine wd_skip (i := 13) [1, 2, 3, 4] rfl rfl rfl rfl (by kernel_rfl) (by kernel_rfl) (fun _ _ _ h => h) ?_
      refine wd_skip (i := 14) [1, 2, 3, 4] rfl rfl rfl rfl (by kernel_rfl) (by kernel_rfl) (fun _ _ _ h => h) ?_
      refine wd_skip (i := 15) [1, 2, 3, 4] rfl rfl rfl rfl (by kernel_rfl) (by kernel_rfl) (fun _ _ _ h => h) ?_
      refine wd_skip (i := 16) [1, 2, 3, 4] rfl rfl rfl rfl (by kernel_rfl) (by kernel_rfl) (fun _ _ _ h => h) ?_
      refine wd_take (i := 17) [1, 2, 3, 4] rfl rfl rfl rfl rfl (by kernel_rfl) (by kernel_rfl) (fun _ _ _ _ h => h) (yh_pickF rfl rfl rfl) ?_
      refine wd_done (by kernel_rfl) ?_
      refine ex_seq ?_
      refine cw_false rfl ?_
      refine cw_skip ?_
      refine ex_block_normal ?_
      refine ex_seq ?_
      refine cw_region ?_
      refine wl_u rfl (ow_y (yh_move rfl rfl) rfl rfl (kk_wl ?_))
      refine wl_u rfl (ow_y (yh_arI rfl rfl rfl rfl (by omega)) rfl rfl (kk_wl ?_))
      refine wl_u rfl (ow_y (yh_assign rfl rfl) rfl rfl (kk_wl ?_))
      refine wl_nil ?_
      exact ex_next [0, 1, 2, 3, 4] (hn8 (n8, x21.2, s3_c_1, s5 + 1, as3_c_1, cs3_c_1, Fs3_c_1) (Nat.lt_succ_self _) h) ⟨rfl, rfl, rfl, rfl, rfl, trivial⟩ (by kernel_rfl)
  · skip
    replace h := bf cc1 h
    have q6 := ltb_false.1 cc1
    refine cw_exit ?_
    refine ex_then_exit ?_
    refine ex_then_exit ?_
    obtain rfl := Option.some.inj h
    have h := go_brk hk8
    refine ex_block_exit ?_
    refine ex_seq ?_
    refine cw_seq ?_
    refine cw_seq ?_
    refine cw_region ?_
    refine wl_u rfl (ow_y (yh_move rfl rfl) rfl rfl (kk_wl ?_))
    obtain ⟨x48, hx48, h⟩ := bd h
    have mp48 := pick_lt hx48 (by decide)
    refine wl_u rfl (ow_cM0 0 rfl hb45 rfl rfl (fun w hw => c_spec_l6Rd_pick N _ _ _ _ hx48 w (hw.at (i := 0) rfl) (Lay.atR (i := 0) hcd rfl hw)) rfl rfl (kk_wl ?_))
    refine wl_nil ?_
    refine ex_seq ?_
    refine cw_block ?_
    refine cw_seq ?_
    refine cw_region ?_
    refine wl_u rfl (ow_y (yh_cmpI rfl rfl rfl rfl) rfl rfl (kk_wl ?_))
    refine wl_u rfl (ow_y (yh_assign rfl rfl) rfl rfl (kk_wl ?_))
    refine wl_nil ?_
    refine ex_seq ?_
    refine cw_split rfl (fun cc5 => ?_) (fun cc5 => ?_)
    · skip
      replace h := bt cc5 h
      have q7 := eqb_true.1 cc5
      refine cw_region ?_
      refine wl_u rfl (ow_lit1 Tb rfl rfl rfl rfl rfl rfl rfl rfl rfl rfl (fun g51 => kk_chg (c' := owC strsL [g51] [.slice (some ⟨g51, 0, none⟩) 2 2] ([(⟨#[98]⟩ : Str), (⟨#[97]⟩ : Str)] : List Str)) 0 rfl (fun w hA => own_strsL ([(⟨#[98]⟩ : Str), (⟨#[97]⟩ : Str)] : List Str) hA rfl (by simp [maxLen])) rfl (kk_wl ?_)))
      refine wl_u rfl (ow_y (yh_field Tb rfl rfl rfl) rfl rfl (kk_wl ?_))
      refine wl_u rfl (ow_store1 Tb (k := 3) rfl rfl rfl rfl rfl rfl rfl rfl rfl (kk_wl ?_))
      refine wl_nil ?_
      refine ex_block_normal ?_
      refine ex_seq ?_
      refine cw_seq ?_
      refine cw_region ?_
      refine wl_u rfl (ow_y (yh_loadBA Tb (k := 0) rfl rfl rfl rfl rfl rfl) rfl rfl (kk_wl ?_))
      refine wl_u rfl (ow_storeA Tb (k := 3) rfl rfl rfl rfl rfl rfl rfl rfl rfl (kk_wl ?_))
      refine wl_nil ?_
      refine ex_seq ?_
      refine cw_ret ?_
      obtain rfl := Option.some.inj h
      exact ex_r1 Tb rfl (.cellA 0 rfl rfl rfl rfl rfl) (fun wq hq => ⟨_, rfl, hq.ext, ⟨(some ⟨g51, 0, none⟩), 2, [g51], rfl, NewM.sel [2, 3] hq rfl⟩⟩)
    · skip
      replace h := bf cc5 h
      have q8 := eqb_false.1 cc5
      refine cw_seq ?_
      refine cw_region ?_
      refine wl_u rfl (ow_y (yh_cmpI rfl rfl rfl rfl) rfl rfl (kk_wl ?_))
      refine wl_u rfl (ow_y (yh_assign rfl rfl) rfl rfl (kk_wl ?_))
      refine wl_nil ?_
      refine ex_seq ?_
      refine cw_split rfl (fun cc6 => ?_) (fun cc6 => ?_)
      · skip
        replace h := bt cc6 h
        have q9 := eqb_true.1 cc6
        refine cw_region ?_
        refine wl_u rfl (ow_lit1 Tb rfl rfl rfl rfl rfl rfl rfl rfl rfl rfl (fun g55 => kk_chg (c' := owC strsL [g55] [.slice (some ⟨g55, 0, none⟩) 5 5] ([(⟨#[97]⟩ : Str), (⟨#[98]⟩ : Str), (⟨#[99]⟩ : Str), (⟨#[100]⟩ : Str), (⟨#[101]⟩ : Str)] : List Str)) 0 rfl (fun w hA => own_strsL ([(⟨#[97]⟩ : Str), (⟨#[98]⟩ : Str), (⟨#[99]⟩ : Str), (⟨#[100]⟩ : Str), (⟨#[101]⟩ : Str)] : List Str) hA rfl (by simp [maxLen])) rfl (kk_wl ?_)))
        refine wl_u rfl (ow_y (yh_field Tb rfl rfl rfl) rfl rfl (kk_wl ?_))
        refine wl_u rfl (ow_store1 Tb (k := 3) rfl rfl rfl rfl rfl rfl rfl rfl rfl (kk_wl ?_))
        refine wl_nil ?_
        refine ex_block_normal ?_
        refine ex_seq ?_
        refine cw_seq ?_
        refine cw_region ?_
        refine wl_u rfl (ow_y (yh_loadBA Tb (k := 0) rfl rfl rfl rfl rfl rfl) rfl rfl (kk_wl ?_))
        refine wl_u rfl (ow_storeA Tb (k := 3) rfl rfl rfl rfl rfl rfl rfl rfl rfl (kk_wl ?_))
        refine wl_nil ?_
        refine ex_seq ?_
        refine cw_ret ?_
        obtain rfl := Option.some.inj h
        exact ex_r1 Tb rfl (.cellA 0 rfl rfl rfl rfl rfl) (fun wq hq => ⟨_, rfl, hq.ext, ⟨(some ⟨g55, 0, none⟩), 5, [g55], rfl, NewM.sel [2, 3] hq rfl⟩⟩)
      · skip
        replace h := bf cc6 h
        have q10 := eqb_false.1 cc6
        refine cw_seq ?_
        refine cw_region ?_
        refine wl_u rfl (ow_y (yh_cmpI rfl rfl rfl rfl) rfl rfl (kk_wl ?_))
        refine wl_u rfl (ow_y (yh_assign rfl rfl) rfl rfl (kk_wl ?_))
        refine wl_nil ?_
        refine ex_seq ?_
        refine cw_split rfl (fun cc7 => ?_) (fun cc7 => ?_)
        · skip
          replace h := bt cc7 h
          have q11 := eqb_true.1 cc7
          refine cw_region ?_
          refine wl_u rfl (ow_y (yh_field Tb rfl rfl rfl) rfl rfl (kk_wl ?_))
          refine wl_u rfl (ow_y (yh_loadB Tb (k := 2) rfl rfl rfl rfl rfl) rfl rfl (kk_wl ?_))
          refine wl_u rfl (ow_lit1 Tb rfl rfl rfl rfl rfl rfl rfl rfl rfl rfl (fun g61 => kk_chg (c' := owC strsL [g61] [.slice (some ⟨g61, 0, none⟩) 1 1] ([x7.1] : List Str)) 0 rfl (fun w hA => own_strsL ([x7.1] : List Str) hA rfl (by simp [maxLen])) rfl (kk_wl ?_)))
          refine wl_u rfl (ow_y (yh_field Tb rfl rfl rfl) rfl rfl (kk_wl ?_))
          refine wl_u rfl (ow_store1 Tb (k := 3) rfl rfl rfl rfl rfl rfl rfl rfl rfl (kk_wl ?_))
          refine wl_nil ?_
          refine ex_block_normal ?_
          refine ex_seq ?_
          refine cw_seq ?_
          refine cw_region ?_
          refine wl_u rfl (ow_y (yh_loadBA Tb (k := 0) rfl rfl rfl rfl rfl rfl) rfl rfl (kk_wl ?_))
          refine wl_u rfl (ow_storeA Tb (k := 3) rfl rfl rfl rfl rfl rfl rfl rfl rfl (kk_wl ?_))
          refine wl_nil ?_
          refine ex_seq ?_
          refine cw_ret ?_
          obtain rfl := Option.some.inj h
          exact ex_r1 Tb rfl (.cellA 0 rfl rfl rfl rfl rfl) (fun wq hq => ⟨_, rfl, hq.ext, ⟨(some ⟨g61, 0, none⟩), 1, [g61], rfl, NewM.sel [2, 3] hq rfl⟩⟩)
        · skip
          replace h := bf cc7 h
          have q12 := eqb_false.1 cc7
          refine cw_skip ?_
          refine ex_block_normal ?_
          refine ex_seq ?_
          refine cw_seq ?_
          refine cw_region ?_
          refine wl_u rfl (ow_y (yh_loadBA Tb (k := 2) rfl rfl rfl rfl rfl rfl) rfl rfl (kk_wl ?_))
          refine wl_u rfl (ow_storeA Tb (k := 1) rfl rfl rfl rfl rfl rfl rfl rfl rfl (kk_wl ?_))
          refine wl_nil ?_
          refine ex_seq ?_
          refine cw_ret ?_
          obtain rfl := Option.some.inj h
          exact ex_r1 Tb rfl (.cellA 0 rfl rfl rfl rfl rfl) (fun wq hq => ⟨_, rfl, hq.ext, ⟨as3_c_1, cs3_c_1, Fs3_c_1, rfl, NewM.sel [3, 1] hq rfl⟩⟩)

def m_spec_l92Change_L11 (N : Nat) (cd : List UInt8) (u1 : Flow) (j103 : Nat × Str) : Nat → Nat → (List Str) → Nat → Option (Ex (Nat × List Str × Nat) ((Change) × Nat))
  | 0, _, _, _ => none
  | n + 1, s0_c_1, s6, s7 => (bif ltb ((s7 : Nat) : Int) ((u1.steps.length : Nat) : Int) then (bif ltb ((s6.length : Nat) : Int) 4 then (u1.steps[s7]?).bind fun y53 => (bif !(seq y53.name j103.2) then (m_spec_l6Rd_pick N cd s0_c_1 4).bind fun x62 => (bif eqb x62.1 0 then (appd s6 ([y53.name] : List Str)).bind fun l73 => m_spec_l92Change_L11 N cd u1 j103 n x62.2 (s6 ++ ([y53.name] : List Str)) (s7 + 1)
 else m_spec_l92Change_L11 N cd u1 j103 n x62.2 s6 (s7 + 1))
 else m_spec_l92Change_L11 N cd u1 j103 n s0_c_1 s6 (s7 + 1))
 else some (Ex.brk (s0_c_1, s6, s7)))
 else some (Ex.brk (s0_c_1, s6, s7)))

def m_spec_l92Change (N : Nat) (cd : List UInt8) (p : Nat) (u1 : Flow) : Option ((Change) × Nat) := (m_spec_l6Rd_pick N cd p 4).bind fun x9 => (m_spec_l91Step N cd x9.2).bind fun x12 => ((bif eqb (w64 (1 + x9.1)) 1 then (m_spec_l6Rd_of N cd x12.2 ([(⟨#[97, 97]⟩ : Str), (⟨#[103]⟩ : Str), (⟨#[104]⟩ : Str), (⟨#[99]⟩ : Str), (⟨#[101]⟩ : Str)] : List Str)).bind fun x19 => some (x19.2, x19.1)
 else (m_spec_l6Rd_pick N cd x12.2 6).bind fun x23 => (bif ltb 0 x23.1 then (m_spec_l6Rd_pick N cd x23.2 ((u1.steps.length : Nat) : Int)).bind fun x31 => (geti u1.steps x31.1).bind fun y32 => some (x31.2, y32.name)
 else some (x23.2, x12.1.name))) : Option (Nat × Str)).bind fun j103 => (m_spec_l92Change_L11 N cd u1 j103 N j103.1 ([] : List Str) 0).bind fun e11 => e11.go (fun r => r) fun b11 => (m_spec_l6Rd_pick N cd b11.1 30).bind fun x78 => (bif eqb x78.1 0 then (m_spec_l6Rd_pick N cd x78.2 2).bind fun x82 => (geti ([0, 5] : List Int) x82.1).bind fun y83 => some ((Change.mk y83 (Step.mk j103.2 b11.2.1 x12.1.undo)), x82.2)
 else some ((Change.mk (w64 (1 + x9.1)) (Step.mk j103.2 b11.2.1 x12.1.undo)), x78.2))

set_option maxHeartbeats 4000000 in
theorem c_spec_l92Change (N : Nat) (cd : List UInt8) (p : Nat) (u1 : Flow) (res : (Change) × Nat) (h : m_spec_l92Change N cd p u1 = some res) (w : World) {a_u1_steps : Option Addr} {c_u1_steps : Nat} {u0 ccd : Nat} {acd : Option Addr} (hr : (blkC u0 86 [.slice acd cd.length ccd, .int .i64 ((p : Nat) : Int)]).A w) (hcd : bytesL.rd w [u0] [.slice acd cd.length ccd] cd) (h_u1_steps : stepsL.rd w [u0] [.slice a_u1_steps u1.steps.length c_u1_steps] u1.steps) : Ret Try.prog 27 [.pointer (some ⟨u0, 0, none⟩), .agg #[.int .i64 u1.ver, .slice a_u1_steps u1.steps.length c_u1_steps]] w [u0] fun v w' => ∃ a1 c1 F1, v = .agg #[.int .i64 res.1.kind, .string res.1.step.name, .slice a1 res.1.step.after.length c1, .bool res.1.step.undo] ∧ NewM w w' [u0] [owC strsL F1 [.slice a1 res.1.step.after.length c1] res.1.step.after, blkC u0 86 [.slice acd cd.length ccd, .int .i64 ((res.2 : Nat) : Int)]] := by
  have mh_u1_steps := rd_max h_u1_steps
  have mhcd := rd_max hcd
  unfold m_spec_l92Change at h
  refine ret_enter Try.func27 rfl Try.ntmps27 rfl (hp_one hr (by simp [blkC])) ?_
  refine cw_seq ?_
  refine cw_region ?_
  refine wl_u rfl (ow_boxA rfl rfl rfl rfl (fun g3 => kk_wl ?_))
  refine wl_u rfl (ow_allocA Tb rfl rfl rfl rfl (fun g4 => kk_wl ?_))
  refine wl_nil ?_
  refine ex_seq ?_
  refine cw_seq ?_
  refine cw_region ?_
  refine wl_u rfl (ow_y (yh_move rfl rfl) rfl rfl (kk_wl ?_))
  obtain ⟨x9, hx9, h⟩ := bd h
  have mp9 := pick_lt hx9 (by decide)
  refine wl_u rfl (ow_cM0 2 rfl hb45 rfl rfl (fun w hw => c_spec_l6Rd_pick N _ _ _ _ hx9 w (hw.at (i := 2) rfl) (Lay.atR (i := 2) hcd rfl hw)) rfl rfl (kk_wl ?_))
  refine wl_u rfl (ow_y (yh_arW rfl rfl rfl rfl) rfl rfl (kk_wl ?_))
  refine wl_u rfl (ow_y (yh_move rfl rfl) rfl rfl (kk_wl ?_))
  obtain ⟨x12, hx12, h⟩ := bd h
  refine wl_u rfl (ow_cM1 0 rfl hb64 rfl rfl (fun w hw => c_spec_l91Step N _ _ _ hx12 w (hw.at (i := 0) rfl) (Lay.atR (i := 0) hcd rfl hw)) rfl rfl (fun a12 c12 F12 => kk_wl ?_))
  refine wl_u rfl (ow_y (yh_build [.int .i64 (w64 (1 + x9.1)), .string x12.1.name, .slice a12 x12.1.after.length c12, .bool x12.1.undo] rfl rfl (by kernel_rfl)) rfl rfl (kk_wl ?_))
  refine wl_u rfl (ow_allocA Tb rfl rfl rfl rfl (fun g5 => kk_wl ?_))
  refine wl_u rfl (ow_storeA Tb (k := 0) rfl rfl rfl rfl rfl rfl rfl rfl rfl (kk_wl ?_))
  refine wl_nil ?_
  refine ex_seq ?_
  obtain ⟨j103, he103, hk103⟩ := bd h
  clear h
  refine cw_cut (σ := Unit) (fun s => True) (fun s => [(0, .pointer (some ⟨u0, 0, none⟩)), (3, .pointer (some ⟨g3, 0, none⟩)), (4, .pointer (some ⟨g4, 0, none⟩)), (5, .pointer (some ⟨g5, 0, none⟩))]) (fun s => [blkC u0 86 [.slice acd cd.length ccd, .int .i64 ((j103.1 : Nat) : Int)], blkC g3 25 [.int .i64 u1.ver, .slice a_u1_steps u1.steps.length c_u1_steps], blkC g4 30 [.int .i64 0, .string (⟨#[]⟩ : Str), .slice none 0 0, .bool false], blkC g5 30 [.int .i64 (w64 (1 + x9.1)), .string j103.2, .slice a12 x12.1.after.length c12, .bool x12.1.undo], owC strsL F12 [.slice a12 x12.1.after.length c12] x12.1.after]) (fun s hI => ?_) (fun KL hn103 => ?_)
  · skip
    have h := hk103
    refine cw_seq ?_
    refine cw_region ?_
    refine wl_u rfl (ow_lit0 Tb rfl rfl rfl rfl rfl rfl (fun g37 => kk_chg (c' := owC strsL [g37] [.slice (some ⟨g37, 0, none⟩) 0 0] ([] : List Str)) 0 rfl (fun w hA => own_strsL ([] : List Str) hA rfl (by simp [maxLen])) rfl (kk_wl ?_)))
    refine wl_u rfl (ow_y (yh_assign rfl rfl) rfl rfl (kk_wl ?_))
    refine wl_nil ?_
    refine ex_seq ?_
    refine cw_seq ?_
    refine cw_seq ?_
    refine cw_region ?_
    refine wl_u rfl (ow_y (yh_assign rfl rfl) rfl rfl (kk_wl ?_))
    refine wl_nil ?_
    refine ex_seq ?_
    refine cw_block ?_
    obtain ⟨e11, he11, hk11⟩ := bd h
    clear h
    refine cw_loopG (σ := Nat × Nat × (List Str) × Nat × (Option Addr) × Nat × (List Nat)) (fun s => m_spec_l92Change_L11 N cd u1 j103 s.1 s.2.1 s.2.2.1 s.2.2.2.1 = some e11) (fun s => [(0, .pointer (some ⟨u0, 0, none⟩)), (3, .pointer (some ⟨g3, 0, none⟩)), (4, .pointer (some ⟨g4, 0, none⟩)), (5, .pointer (some ⟨g5, 0, none⟩)), (6, .slice s.2.2.2.2.1 s.2.2.1.length s.2.2.2.2.2.1), (7, .int .i64 ((s.2.2.2.1 : Nat) : Int))]) (fun s => [blkC u0 86 [.slice acd cd.length ccd, .int .i64 ((s.2.1 : Nat) : Int)], blkC g3 25 [.int .i64 u1.ver, .slice a_u1_steps u1.steps.length c_u1_steps], blkC g4 30 [.int .i64 0, .string (⟨#[]⟩ : Str), .slice none 0 0, .bool false], blkC g5 30 [.int .i64 (w64 (1 + x9.1)), .string j103.2, .slice a12 x12.1.after.length c12, .bool x12.1.undo], owC strsL F12 [.slice a12 x12.1.after.length c12] x12.1.after, owC strsL s.2.2.2.2.2.2 [.slice s.2.2.2.2.1 s.2.2.1.length s.2.2.2.2.2.1] s.2.2.1]) (fun s => s.1) (N, j103.1, ([] : List Str), 0, (some ⟨g37, 0, none⟩), 0, [g37]) [1, 2, 3, 4, 5, 0] he11 ⟨rfl, rfl, rfl, rfl, rfl, rfl, trivial⟩ rfl (fun KL s he11 hn11 => ?_)
    obtain ⟨n11, s0_c_1, s6, s7, as6, cs6, Fs6⟩ := s
    simp only at he11 hn11 ⊢
    rcases n11 with _ | n11
    · exact nosome he11
    have h := he11; rw [m_spec_l92Change_L11] at h
    refine cw_seq ?_
    refine cw_seq ?_
    refine cw_region ?_
    refine wl_u rfl (ow_y (yh_move rfl rfl) rfl rfl (kk_wl ?_))
    refine wl_u rfl (ow_y (yh_field Tb rfl rfl rfl) rfl rfl (kk_wl ?_))
    refine wl_u rfl (ow_y (yh_loadB Tb (k := 1) rfl rfl rfl rfl rfl) rfl rfl (kk_wl ?_))
    refine wl_u rfl (ow_y (yh_lenS Tb rfl rfl rfl rfl) rfl rfl (kk_wl ?_))
    refine wl_u rfl (ow_y (yh_cmpI rfl rfl rfl rfl) rfl rfl (kk_wl ?_))
    refine wl_u rfl (ow_y (yh_move rfl rfl) rfl rfl (kk_wl ?_))
    refine wl_s rfl rfl (fun cc1 => ?_) (fun cc1 => ?_)
    · skip
      replace h := bt cc1 h
      have q1 := ltb_true.1 cc1
      refine wl_g rfl rfl (ow_y (yh_move rfl rfl) rfl rfl (kk_wl ?_))
      refine wl_know (s6.length ≤ 9223372036854775807) (fun w hw => own_max 5 rfl hw) (fun mo45 => ?_)
      refine wl_g rfl rfl (ow_y (yh_lenS Tb rfl rfl rfl rfl) rfl rfl (kk_wl ?_))
      refine wl_g rfl rfl (ow_y (yh_cmpI rfl rfl rfl rfl) rfl rfl (kk_wl ?_))
      refine wl_u rfl (ow_y (yh_pickT rfl rfl rfl) rfl rfl (kk_wl ?_))
      refine wl_nil ?_
      refine ex_seq ?_
      refine cw_split rfl (fun cc2 => ?_) (fun cc2 => ?_)
      · skip
        replace h := bt cc2 h
        have q2 := ltb_true.1 cc2
        refine cw_skip ?_
        refine ex_seq ?_
        refine cw_seq ?_
        refine cw_block ?_
        refine cw_seq ?_
        refine cw_dr [0, 1, 2, 3, 4, 5, 6, 7, 8, 9, 10, 11, 13, 14] [] [blkC g3 25 [.int .i64 u1.ver, .slice a_u1_steps u1.steps.length c_u1_steps], blkC g4 30 [.int .i64 0, .string (⟨#[]⟩ : Str), .slice none 0 0, .bool false], blkC g5 30 [.int .i64 (w64 (1 + x9.1)), .string j103.2, .slice a12 x12.1.after.length c12, .bool x12.1.undo], owC strsL F12 [.slice a12 x12.1.after.length c12] x12.1.after, owC strsL Fs6 [.slice as6 s6.length cs6] s6] (by kernel_rfl) ?_
        refine wd_take (i := 0) [1, 2, 3, 4, 5] rfl rfl rfl rfl rfl (by kernel_rfl) (by kernel_rfl) (fun _ _ _ _ h => h) (yh_field Tb rfl rfl rfl) ?_
        refine wd_take (i := 1) [1, 2, 3, 4, 5] rfl rfl rfl rfl rfl (by kernel_rfl) (by kernel_rfl) (fun _ _ _ _ h => h) (yh_loadB Tb (k := 0) rfl rfl rfl rfl rfl) ?_
        refine wd_take (i := 2) [1, 2, 3, 4, 5] rfl rfl rfl rfl rfl (by kernel_rfl) (by kernel_rfl) (fun _ _ _ _ h => h) (yh_move rfl rfl) ?_
        obtain ⟨y53, hy53, h⟩ := bd h
        obtain ⟨b53, o53, ha53⟩ := sl_addr h_u1_steps hy53
        subst ha53
        obtain ⟨a53, e53, hc53, hf53⟩ := get_step h_u1_steps hy53
        have mx53 := rd_max hf53
        refine wd_take (i := 3) [1, 2, 3, 4, 5] rfl rfl rfl rfl rfl (by kernel_rfl) (by kernel_rfl) (fun _ _ _ _ h => h) (yh_idx Tb (k := s7) rfl rfl rfl rfl (get_lt hy53) rfl rfl) ?_
        refine wd_take (i := 4) [1, 2, 3, 4, 5] rfl rfl rfl rfl rfl (by kernel_rfl) (by kernel_rfl) (fun _ _ _ _ h => h) (yh_field Tb rfl rfl rfl) ?_
        refine wd_take (i := 5) [1, 2, 3, 4, 5] rfl rfl rfl rfl rfl (by kernel_rfl) (by kernel_rfl) (fun _ _ _ _ h => h) (yh_loadAF Tb (j := 0) rfl rfl rfl hc53 rfl) ?_
        refine wd_take (i := 6) [1, 2, 3, 4, 5] rfl rfl rfl rfl rfl (by kernel_rfl) (by kernel_rfl) (fun _ _ _ _ h => h) (yh_field Tb rfl rfl rfl) ?_
        refine wd_take (i := 7) [1, 2, 3, 4, 5] rfl rfl rfl rfl rfl (by kernel_rfl) (by kernel_rfl) (fun _ _ _ _ h => h) (yh_field Tb rfl rfl rfl) ?_
        refine wd_take (i := 8) [1, 2, 3, 4, 5] rfl rfl rfl rfl rfl (by kernel_rfl) (by kernel_rfl) (fun _ _ _ _ h => h) (yh_loadB Tb (k := 2) rfl rfl rfl rfl rfl) ?_
        refine wd_take (i := 9) [1, 2, 3, 4, 5] rfl rfl rfl rfl rfl (by kernel_rfl) (by kernel_rfl) (fun _ _ _ _ h => h) (yh_cmpS rfl rfl rfl rfl) ?_
        refine wd_take (i := 10) [1, 2, 3, 4, 5] rfl rfl rfl rfl rfl (by kernel_rfl) (by kernel_rfl) (fun _ _ _ _ h => h) (yh_move rfl rfl) ?_
        refine wd_split 11 rfl rfl rfl (fun cc3 => ?_) (fun cc3 => ?_)
        · skip
          replace h := bt cc3 h
          refine wd_take (i := 11) [1, 2, 3, 4, 5] rfl rfl rfl rfl rfl (by kernel_rfl) (by kernel_rfl) (fun _ _ _ _ h => h) (yh_move rfl rfl) ?_
          obtain ⟨x62, hx62, h⟩ := bd h
          have mp62 := pick_lt hx62 (by decide)
          refine wd_one 12 rfl rfl (by kernel_rfl) (ow_cM0 0 rfl hb45 rfl rfl (fun w hw => c_spec_l6Rd_pick N _ _ _ _ hx62 w (hw.at (i := 0) rfl) (Lay.atR (i := 0) hcd rfl hw)) rfl rfl (kk_wd [1, 2, 3, 4, 5] (by kernel_rfl) ?_))
          refine wd_take (i := 13) [1, 2, 3, 4, 5] rfl rfl rfl rfl rfl (by kernel_rfl) (by kernel_rfl) (fun _ _ _ _ h => h) (yh_cmpI rfl rfl rfl rfl) ?_
          refine wd_take (i := 14) [1, 2, 3, 4, 5] rfl rfl rfl rfl rfl (by kernel_rfl) (by kernel_rfl) (fun _ _ _ _ h => h) (yh_pickT rfl rfl rfl) ?_
          refine wd_done (by kernel_rfl) ?_
          refine ex_seq ?_
          refine cw_split rfl (fun cc4 => ?_) (fun cc4 => ?_)
          · skip
            replace h := bt cc4 h
            have q3 := eqb_true.1 cc4
            refine cw_region ?_
            refine wl_u rfl (ow_y (yh_move rfl rfl) rfl rfl (kk_wl ?_))
            refine wl_u rfl (ow_y (yh_field Tb rfl rfl rfl) rfl rfl (kk_wl ?_))
            refine wl_u rfl (ow_y (yh_loadB Tb (k := 1) rfl rfl rfl rfl rfl) rfl rfl (kk_wl ?_))
            refine wl_u rfl (ow_y (yh_move rfl rfl) rfl rfl (kk_wl ?_))
            refine wl_u rfl (ow_y (yh_idx Tb (k := s7) rfl rfl rfl rfl (get_lt hy53) rfl rfl) rfl rfl (kk_wl ?_))
            refine wl_u rfl (ow_y (yh_field Tb rfl rfl rfl) rfl rfl (kk_wl ?_))
            refine wl_u rfl (ow_y (yh_loadAF Tb (j := 0) rfl rfl rfl hc53 rfl) rfl rfl (kk_wl ?_))
            refine wl_u rfl (ow_lit1 Tb rfl rfl rfl rfl rfl rfl rfl rfl rfl rfl (fun g72 => kk_chg (c' := owC strsL [g72] [.slice (some ⟨g72, 0, none⟩) 1 1] ([y53.name] : List Str)) 0 rfl (fun w hA => own_strsL ([y53.name] : List Str) hA rfl (by simp [maxLen])) rfl (kk_wl ?_)))
            obtain ⟨hll73, h⟩ := bd_appd h
            refine wl_u rfl (ow_appP Tb (i := 6) rfl rfl rfl rfl rfl (fun w hw => rdo (A := strsL) 0 rfl hw) rfl rfl rfl rfl hll73 (by decide) rfl rfl (fun a73 c73 F73 => kk_wl ?_))
            refine wl_u rfl (ow_y (yh_assign rfl rfl) rfl rfl (kk_wl ?_))
            refine wl_nil ?_
            refine ex_block_normal ?_
            refine ex_seq ?_
            refine cw_region ?_
            refine wl_u rfl (ow_y (yh_move rfl rfl) rfl rfl (kk_wl ?_))
            refine wl_u rfl (ow_y (yh_arI rfl rfl rfl rfl (by omega)) rfl rfl (kk_wl ?_))
            refine wl_u rfl (ow_y (yh_assign rfl rfl) rfl rfl (kk_wl ?_))
            refine wl_nil ?_
            exact ex_next [2, 3, 4, 5, 6, 0] (hn11 (n11, x62.2, (s6 ++ ([y53.name] : List Str)), s7 + 1, a73, c73, F73) (Nat.lt_succ_self _) h) ⟨rfl, rfl, rfl, rfl, rfl, rfl, trivial⟩ (by kernel_rfl)
          · skip
            replace h := bf cc4 h
            have q4 := eqb_false.1 cc4
            refine cw_skip ?_
            refine ex_block_normal ?_
            refine ex_seq ?_
            refine cw_region ?_
            refine wl_u rfl (ow_y (yh_move rfl rfl) rfl rfl (kk_wl ?_))
            refine wl_u rfl (ow_y (yh_arI rfl rfl rfl rfl (by omega)) rfl rfl (kk_wl ?_))
            refine wl_u rfl (ow_y (yh_assign rfl rfl) rfl rfl (kk_wl ?_))
            refine wl_nil ?_
            exact ex_next [0, 1, 2, 3, 4, 5] (hn11 (n11, x62.2, s6, s7 + 1, as6, cs6, Fs6) (Nat.lt_succ_self _) h) ⟨rfl, rfl, rfl, rfl, rfl, rfl, trivial⟩ (by kernel_rfl)
        · skip
          replace h := bf cc3 h
          refine wd_skip (i := 11) [1, 2, 3, 4, 5] rfl rfl rfl rfl (by kernel_rfl) (by kernel_rfl) (fun _ _ _ h => h) ?_
          refine wd_offD 12 rfl rfl rfl rfl (by kernel_rfl) [1, 2, 3, 4, 5] (fun _ => rfl) ?_
          refine wd_skip (i := 13) [1, 2, 3, 4, 5] rfl rfl rfl rfl (by kernel_rfl) (by kernel_rfl) (fun _ _ _ h => h) ?_
          refine wd_take (i := 14) [1, 2, 3, 4, 5] rfl rfl rfl rfl rfl (by kernel_rfl) (by kernel_rfl) (fun _ _ _ _ h => h) (yh_pickF rfl rfl rfl) ?_
          refine wd_done (by kernel_rfl) ?_
          refine ex_seq ?_
          refine cw_false rfl ?_
          refine cw_skip ?_
          refine ex_block_normal ?_
          refine ex_seq ?_
          refine cw_region ?_
          refine wl_u rfl (ow_y (yh_move rfl rfl) rfl rfl (kk_wl ?_))
          refine wl_u rfl (ow_y (yh_arI rfl rfl rfl rfl (by omega)) rfl rfl (kk_wl ?_))
          refine wl_u rfl (ow_y (yh_assign rfl rfl) rfl rfl (kk_wl ?_))
          refine wl_nil ?_
          exact ex_next [0, 1, 2, 3, 4, 5] (hn11 (n11, s0_c_1, s6, s7 + 1, as6, cs6, Fs6) (Nat.lt_succ_self _) h) ⟨rfl, rfl, rfl, rfl, rfl, rfl, trivial⟩ (by kernel_rfl)
      · skip
        replace h := bf cc2 h
        have q5 := ltb_false.1 cc2
        refine cw_exit ?_
        refine ex_then_exit ?_
        refine ex_then_exit ?_
        obtain rfl := Option.some.inj h
        have h := go_brk hk11
        refine ex_block_exit ?_
        refine ex_seq ?_
        refine cw_seq ?_
        refine cw_region ?_
        refine wl_u rfl (ow_y (yh_move rfl rfl) rfl rfl (kk_wl ?_))
        refine wl_u rfl (ow_y (yh_field Tb rfl rfl rfl) rfl rfl (kk_wl ?_))
        refine wl_u rfl (ow_y (yh_field Tb rfl rfl rfl) rfl rfl (kk_wl ?_))
        refine wl_u rfl (ow_store1 Tb (k := 3) rfl rfl rfl rfl rfl rfl rfl rfl rfl (kk_wl ?_))
        refine wl_nil ?_
        refine ex_seq ?_
        refine cw_seq ?_
        refine cw_seq ?_
        refine cw_region ?_
        refine wl_u rfl (ow_y (yh_move rfl rfl) rfl rfl (kk_wl ?_))
        obtain ⟨x78, hx78, h⟩ := bd h
        have mp78 := pick_lt hx78 (by decide)
        refine wl_u rfl (ow_cM0 1 rfl hb45 rfl rfl (fun w hw => c_spec_l6Rd_pick N _ _ _ _ hx78 w (hw.at (i := 1) rfl) (Lay.atR (i := 1) hcd rfl hw)) rfl rfl (kk_wl ?_))
        refine wl_u rfl (ow_y (yh_cmpI rfl rfl rfl rfl) rfl rfl (kk_wl ?_))
        refine wl_nil ?_
        refine ex_seq ?_
        refine cw_split rfl (fun cc5 => ?_) (fun cc5 => ?_)
        · skip
          replace h := bt cc5 h
          have q6 := eqb_true.1 cc5
          refine cw_region ?_
          refine wl_u rfl (ow_lit1 Tb rfl rfl rfl rfl rfl rfl rfl rfl rfl rfl (fun g80 => kk_chg (c' := owC intsL [g80] [.slice (some ⟨g80, 0, none⟩) 2 2] ([0, 5] : List Int)) 0 rfl (fun w hA => own_intsL ([0, 5] : List Int) hA rfl (by simp [maxLen])) rfl (kk_wl ?_)))
          refine wl_u rfl (ow_y (yh_move rfl rfl) rfl rfl (kk_wl ?_))
          obtain ⟨x82, hx82, h⟩ := bd h
          have mp82 := pick_lt hx82 (by decide)
          refine wl_u rfl (ow_cM0 1 rfl hb45 rfl rfl (fun w hw => c_spec_l6Rd_pick N _ _ _ _ hx82 w (hw.at (i := 1) rfl) (Lay.atR (i := 1) hcd rfl hw)) rfl rfl (kk_wl ?_))
          obtain ⟨y83, zy83, h⟩ := bd h
          obtain ⟨iy83, hy83⟩ := geti_some zy83
          refine wl_u rfl (ow_y (yh_idx Tb (k := x82.1.toNat) rfl rfl rfl iy83 (get_lt hy83) rfl rfl) rfl rfl (kk_wl ?_))
          refine wl_u rfl (ow_y (yh_loadO0 Tb 1 rfl rfl rfl rfl rfl hy83 rfl) rfl rfl (kk_wl ?_))
          refine wl_u rfl (ow_y (yh_field Tb rfl rfl rfl) rfl rfl (kk_wl ?_))
          refine wl_u rfl (ow_store1 Tb (k := 2) rfl rfl rfl rfl rfl rfl rfl rfl rfl (kk_wl ?_))
          refine wl_nil ?_
          refine ex_seq ?_
          refine cw_seq ?_
          refine cw_region ?_
          refine wl_u rfl (ow_y (yh_loadBA Tb (k := 0) rfl rfl rfl rfl rfl rfl) rfl rfl (kk_wl ?_))
          refine wl_u rfl (ow_storeA Tb (k := 4) rfl rfl rfl rfl rfl rfl rfl rfl rfl (kk_wl ?_))
          refine wl_nil ?_
          refine ex_seq ?_
          refine cw_ret ?_
          obtain rfl := Option.some.inj h
          exact ex_r1 Tb rfl (.cellA 0 rfl rfl rfl rfl rfl) (fun wq hq => ⟨_, rfl, hq.ext, ⟨as6, cs6, Fs6, rfl, NewM.sel [6, 2] hq rfl⟩⟩)
        · skip
          replace h := bf cc5 h
          have q7 := eqb_false.1 cc5
          refine cw_skip ?_
          refine ex_seq ?_
          refine cw_seq ?_
          refine cw_region ?_
          refine wl_u rfl (ow_y (yh_loadBA Tb (k := 1) rfl rfl rfl rfl rfl rfl) rfl rfl (kk_wl ?_))
          refine wl_u rfl (ow_storeA Tb (k := 3) rfl rfl rfl rfl rfl rfl rfl rfl rfl (kk_wl ?_))
          refine wl_nil ?_
          refine ex_seq ?_
          refine cw_ret ?_
          obtain rfl := Option.some.inj h
          exact ex_r1 Tb rfl (.cellA 0 rfl rfl rfl rfl rfl) (fun wq hq => ⟨_, rfl, hq.ext, ⟨as6, cs6, Fs6, rfl, NewM.sel [5, 1] hq rfl⟩⟩)
    · skip
      replace h := bf cc1 h
      have q8 := ltb_false.1 cc1
      refine wl_n rfl rfl rfl rfl ?_
      refine wl_n rfl rfl rfl rfl ?_
      refine wl_n rfl rfl rfl rfl ?_
      refine wl_u rfl (ow_y (yh_pickF rfl rfl rfl) rfl rfl (kk_wl ?_))
      refine wl_nil ?_
      refine ex_seq ?_
      refine cw_false rfl ?_
      refine cw_exit ?_
      refine ex_then_exit ?_
      refine ex_then_exit ?_
      obtain rfl := Option.some.inj h
      have h := go_brk hk11
      refine ex_block_exit ?_
      refine ex_seq ?_
      refine cw_seq ?_
      refine cw_region ?_
      refine wl_u rfl (ow_y (yh_move rfl rfl) rfl rfl (kk_wl ?_))
      refine wl_u rfl (ow_y (yh_field Tb rfl rfl rfl) rfl rfl (kk_wl ?_))
      refine wl_u rfl (ow_y (yh_field Tb rfl rfl rfl) rfl rfl (kk_wl ?_))
      refine wl_u rfl (ow_store1 Tb (k := 3) rfl rfl rfl rfl rfl rfl rfl rfl rfl (kk_wl ?_))
      refine wl_nil ?_
      refine ex_seq ?_
      refine cw_seq ?_
      refine cw_seq ?_
      refine cw_region ?_
      refine wl_u rfl (ow_y (yh_move rfl rfl) rfl rfl (kk_wl ?_))
      obtain ⟨x78, hx78, h⟩ := bd h
      have mp78 := pick_lt hx78 (by decide)
      refine wl_u rfl (ow_cM0 1 rfl hb45 rfl rfl (fun w hw => c_spec_l6Rd_pick N _ _ _ _ hx78 w (hw.at (i := 1) rfl) (Lay.atR (i := 1) hcd rfl hw)) rfl rfl (kk_wl ?_))
      refine wl_u rfl (ow_y (yh_cmpI rfl rfl rfl rfl) rfl rfl (kk_wl ?_))
      refine wl_nil ?_
      refine ex_seq ?_
      refine cw_split rfl (fun cc6 => ?_) (fun cc6 => ?_)
      · skip
        replace h := bt cc6 h
        have q9 := eqb_true.1 cc6
        refine cw_region ?_
        refine wl_u rfl (ow_lit1 Tb rfl rfl rfl rfl rfl rfl rfl rfl rfl rfl (fun g80 => kk_chg (c' := owC intsL [g80] [.slice (some ⟨g80, 0, none⟩) 2 2] ([0, 5] : List Int)) 0 rfl (fun w hA => own_intsL ([0, 5] : List Int) hA rfl (by simp [maxLen])) rfl (kk_wl ?_)))
        refine wl_u rfl (ow_y (yh_move rfl rfl) rfl rfl (kk_wl ?_))
        obtain ⟨x82, hx82, h⟩ := bd h
        have mp82 := pick_lt hx82 (by decide)
        refine wl_u rfl (ow_cM0 1 rfl hb45 rfl rfl (fun w hw => c_spec_l6Rd_pick N _ _ _ _ hx82 w (hw.at (i := 1) rfl) (Lay.atR (i := 1) hcd rfl hw)) rfl rfl (kk_wl ?_))
        obtain ⟨y83, zy83, h⟩ := bd h
        obtain ⟨iy83, hy83⟩ := geti_some zy83
        refine wl_u rfl (ow_y (yh_idx Tb (k := x82.1.toNat) rfl rfl rfl iy83 (get_lt hy83) rfl rfl) rfl rfl (kk_wl ?_))
        refine wl_u rfl (ow_y (yh_loadO0 Tb 1 rfl rfl rfl rfl rfl hy83 rfl) rfl rfl (kk_wl ?_))
        refine wl_u rfl (ow_y (yh_field Tb rfl rfl rfl) rfl rfl (kk_wl ?_))
        refine wl_u rfl (ow_store1 Tb (k := 2) rfl rfl rfl rfl rfl rfl rfl rfl rfl (kk_wl ?_))
        refine wl_nil ?_
        refine ex_seq ?_
        refine cw_seq ?_
        refine cw_region ?_
        refine wl_u rfl (ow_y (yh_loadBA Tb (k := 0) rfl rfl rfl rfl rfl rfl) rfl rfl (kk_wl ?_))
        refine wl_u rfl (ow_storeA Tb (k := 4) rfl rfl rfl rfl rfl rfl rfl rfl rfl (kk_wl ?_))
        refine wl_nil ?_
        refine ex_seq ?_
        refine cw_ret ?_
        obtain rfl := Option.some.inj h
        exact ex_r1 Tb rfl (.cellA 0 rfl rfl rfl rfl rfl) (fun wq hq => ⟨_, rfl, hq.ext, ⟨as6, cs6, Fs6, rfl, NewM.sel [6, 2] hq rfl⟩⟩)
      · skip
        replace h := bf cc6 h
        have q10 := eqb_false.1 cc6
        refine cw_skip ?_
        refine ex_seq ?_
        refine cw_seq ?_
        refine cw_region ?_
        refine wl_u rfl (ow_y (yh_loadBA Tb (k := 1) rfl rfl rfl rfl rfl rfl) rfl rfl (kk_wl ?_))
        refine wl_u rfl (ow_storeA Tb (k := 3) rfl rfl rfl rfl rfl rfl rfl rfl rfl (kk_wl ?_))
        refine wl_nil ?_
        refine ex_seq ?_
        refine cw_ret ?_
        obtain rfl := Option.some.inj h
        exact ex_r1 Tb rfl (.cellA 0 rfl rfl rfl rfl rfl) (fun wq hq => ⟨_, rfl, hq.ext, ⟨as6, cs6, Fs6, rfl, NewM.sel [5, 1] hq rfl⟩⟩)
  · skip
    have h := he103
    refine cw_seq ?_
    refine cw_region ?_
    refine wl_u rfl (ow_y (yh_field Tb rfl rfl rfl) rfl rfl (kk_wl ?_))
    refine wl_u rfl (ow_y (yh_loadB Tb (k := 0) rfl rfl rfl rfl rfl) rfl rfl (kk_wl ?_))
    refine wl_u rfl (ow_y (yh_cmpI rfl rfl rfl rfl) rfl rfl (kk_wl ?_))
    refine wl_nil ?_
    refine ex_seq ?_
    refine cw_split rfl (fun cc7 => ?_) (fun cc7 => ?_)
    · skip
      replace h := bt cc7 h
      have q11 := eqb_true.1 cc7
      refine cw_region ?_
      refine wl_u rfl (ow_y (yh_move rfl rfl) rfl rfl (kk_wl ?_))
      refine wl_u rfl (ow_lit1 Tb rfl rfl rfl rfl rfl rfl rfl rfl rfl rfl (fun g18 => kk_chg (c' := owC strsL [g18] [.slice (some ⟨g18, 0, none⟩) 5 5] ([(⟨#[97, 97]⟩ : Str), (⟨#[103]⟩ : Str), (⟨#[104]⟩ : Str), (⟨#[99]⟩ : Str), (⟨#[101]⟩ : Str)] : List Str)) 0 rfl (fun w hA => own_strsL ([(⟨#[97, 97]⟩ : Str), (⟨#[103]⟩ : Str), (⟨#[104]⟩ : Str), (⟨#[99]⟩ : Str), (⟨#[101]⟩ : Str)] : List Str) hA rfl (by simp [maxLen])) rfl (kk_wl ?_)))
      obtain ⟨x19, hx19, h⟩ := bd h
      refine wl_u rfl (ow_cM0 3 rfl hb65 rfl rfl (fun w hw => c_spec_l6Rd_of N _ _ _ _ hx19 w (hw.at (i := 3) rfl) (Lay.atR (i := 3) hcd rfl hw) (rdoR (A := strsL) 0 3 rfl rfl rfl hw)) rfl rfl (kk_wl ?_))
      refine wl_u rfl (ow_y (yh_field Tb rfl rfl rfl) rfl rfl (kk_wl ?_))
      refine wl_u rfl (ow_y (yh_field Tb rfl rfl rfl) rfl rfl (kk_wl ?_))
      refine wl_u rfl (ow_store1 Tb (k := 2) rfl rfl rfl rfl rfl rfl rfl rfl rfl (kk_wl ?_))
      refine wl_nil ?_
      obtain rfl := Option.some.inj h
      exact ex_next [1, 5, 4, 0, 3] (hn103 () trivial) ⟨rfl, rfl, rfl, rfl, trivial⟩ (by kernel_rfl)
    · skip
      replace h := bf cc7 h
      have q12 := eqb_false.1 cc7
      refine cw_seq ?_
      refine cw_region ?_
      refine wl_u rfl (ow_y (yh_move rfl rfl) rfl rfl (kk_wl ?_))
      obtain ⟨x23, hx23, h⟩ := bd h
      have mp23 := pick_lt hx23 (by decide)
      refine wl_u rfl (ow_cM0 2 rfl hb45 rfl rfl (fun w hw => c_spec_l6Rd_pick N _ _ _ _ hx23 w (hw.at (i := 2) rfl) (Lay.atR (i := 2) hcd rfl hw)) rfl rfl (kk_wl ?_))
      refine wl_u rfl (ow_y (yh_cmpI rfl rfl rfl rfl) rfl rfl (kk_wl ?_))
      refine wl_nil ?_
      refine ex_seq ?_
      refine cw_split rfl (fun cc8 => ?_) (fun cc8 => ?_)
      · skip
        replace h := bt cc8 h
        have q13 := ltb_true.1 cc8
        refine cw_dr [0, 1, 2, 3, 4, 5, 7, 8, 9, 10, 11] [12] [blkC g5 30 [.int .i64 (w64 (1 + x9.1)), .string x12.1.name, .slice a12 x12.1.after.length c12, .bool x12.1.undo], owC strsL F12 [.slice a12 x12.1.after.length c12] x12.1.after, blkC g4 30 [.int .i64 0, .string (⟨#[]⟩ : Str), .slice none 0 0, .bool false], blkC g3 25 [.int .i64 u1.ver, .slice a_u1_steps u1.steps.length c_u1_steps]] (by kernel_rfl) ?_
        refine wd_take (i := 0) [1, 2, 3, 4] rfl rfl rfl rfl rfl (by kernel_rfl) (by kernel_rfl) (fun _ _ _ _ h => h) (yh_field Tb rfl rfl rfl) ?_
        refine wd_take (i := 1) [1, 2, 3, 4] rfl rfl rfl rfl rfl (by kernel_rfl) (by kernel_rfl) (fun _ _ _ _ h => h) (yh_loadB Tb (k := 3) rfl rfl rfl rfl rfl) ?_
        refine wd_take (i := 2) [1, 2, 3, 4] rfl rfl rfl rfl rfl (by kernel_rfl) (by kernel_rfl) (fun _ _ _ _ h => h) (yh_move rfl rfl) ?_
        refine wd_take (i := 3) [1, 2, 3, 4] rfl rfl rfl rfl rfl (by kernel_rfl) (by kernel_rfl) (fun _ _ _ _ h => h) (yh_field Tb rfl rfl rfl) ?_
        refine wd_take (i := 4) [1, 2, 3, 4] rfl rfl rfl rfl rfl (by kernel_rfl) (by kernel_rfl) (fun _ _ _ _ h => h) (yh_loadB Tb (k := 3) rfl rfl rfl rfl rfl) ?_
        refine wd_take (i := 5) [1, 2, 3, 4] rfl rfl rfl rfl rfl (by kernel_rfl) (by kernel_rfl) (fun _ _ _ _ h => h) (yh_lenS Tb rfl rfl rfl rfl) ?_
        obtain ⟨x31, hx31, h⟩ := bd h
        refine wd_one 6 rfl rfl (by kernel_rfl) (ow_cM0 0 rfl hb45 rfl rfl (fun w hw => c_spec_l6Rd_pick N _ _ _ _ hx31 w (hw.at (i := 0) rfl) (Lay.atR (i := 0) hcd rfl hw)) rfl rfl (kk_wd [1, 2, 3, 4] (by kernel_rfl) ?_))
        obtain ⟨y32, zy32, h⟩ := bd h
        obtain ⟨iy32, hy32⟩ := geti_some zy32
        obtain ⟨b32, o32, ha32⟩ := sl_addr h_u1_steps hy32
        subst ha32
        obtain ⟨a32, e32, hc32, hf32⟩ := get_step h_u1_steps hy32
        have mx32 := rd_max hf32
        refine wd_take (i := 7) [1, 2, 3, 4] rfl rfl rfl rfl rfl (by kernel_rfl) (by kernel_rfl) (fun _ _ _ _ h => h) (yh_idx Tb (k := x31.1.toNat) rfl rfl rfl iy32 (get_lt hy32) rfl rfl) ?_
        refine wd_take (i := 8) [1, 2, 3, 4] rfl rfl rfl rfl rfl (by kernel_rfl) (by kernel_rfl) (fun _ _ _ _ h => h) (yh_field Tb rfl rfl rfl) ?_
        refine wd_take (i := 9) [1, 2, 3, 4] rfl rfl rfl rfl rfl (by kernel_rfl) (by kernel_rfl) (fun _ _ _ _ h => h) (yh_loadAF Tb (j := 0) rfl rfl rfl hc32 rfl) ?_
        refine wd_take (i := 10) [1, 2, 3, 4] rfl rfl rfl rfl rfl (by kernel_rfl) (by kernel_rfl) (fun _ _ _ _ h => h) (yh_field Tb rfl rfl rfl) ?_
        refine wd_take (i := 11) [1, 2, 3, 4] rfl rfl rfl rfl rfl (by kernel_rfl) (by kernel_rfl) (fun _ _ _ _ h => h) (yh_field Tb rfl rfl rfl) ?_
        refine wd_one 12 rfl rfl (by kernel_rfl) (ow_store1 Tb (k := 1) rfl rfl rfl rfl rfl rfl rfl rfl rfl (kk_wdT rfl ?_))
        refine wd_done (by kernel_rfl) ?_
        obtain rfl := Option.some.inj h
        exact ex_next [1, 4, 3, 0, 2] (hn103 () trivial) ⟨rfl, rfl, rfl, rfl, trivial⟩ (by kernel_rfl)
      · skip
        replace h := bf cc8 h
        have q14 := ltb_false.1 cc8
        refine cw_skip ?_
        obtain rfl := Option.some.inj h
        exact ex_next [0, 4, 3, 1, 2] (hn103 () trivial) ⟨rfl, rfl, rfl, rfl, trivial⟩ (by kernel_rfl)

def m_spec_l6In (N : Nat) (n_ : Int) (low : Int) (high : Int) : Option (Bool) := (bif leb low n_ then some (leb n_ high)
 else some false)

set_option maxHeartbeats 4000000 in
theorem c_spec_l6In (N : Nat) (n_ : Int) (low : Int) (high : Int) (res : Bool) (h : m_spec_l6In N n_ low high = some res) (w : World) : Ret Try.prog 75 [.int .i64 n_, .int .i64 low, .int .i64 high] w [] fun v w' => v = .bool res := by
  unfold m_spec_l6In at h
  refine ret_enter Try.func75 rfl Try.ntmps75 rfl (Hp.refl w _) ?_
  refine cw_seq ?_
  refine cw_region ?_
  refine wl_u rfl (ow_y (yh_assign rfl rfl) rfl rfl (kk_wl ?_))
  refine wl_nil ?_
  refine ex_seq ?_
  refine cw_seq ?_
  refine cw_region ?_
  refine wl_u rfl (ow_y (yh_move rfl rfl) rfl rfl (kk_wl ?_))
  refine wl_u rfl (ow_y (yh_move rfl rfl) rfl rfl (kk_wl ?_))
  refine wl_u rfl (ow_y (yh_cmpI rfl rfl rfl rfl) rfl rfl (kk_wl ?_))
  refine wl_u rfl (ow_y (yh_move rfl rfl) rfl rfl (kk_wl ?_))
  refine wl_s rfl rfl (fun cc1 => ?_) (fun cc1 => ?_)
  · skip
    replace h := bt cc1 h
    have q1 := leb_true.1 cc1
    refine wl_g rfl rfl (ow_y (yh_move rfl rfl) rfl rfl (kk_wl ?_))
    refine wl_g rfl rfl (ow_y (yh_move rfl rfl) rfl rfl (kk_wl ?_))
    refine wl_g rfl rfl (ow_y (yh_cmpI rfl rfl rfl rfl) rfl rfl (kk_wl ?_))
    refine wl_u rfl (ow_y (yh_pickT rfl rfl rfl) rfl rfl (kk_wl ?_))
    refine wl_u rfl (ow_y (yh_assign rfl rfl) rfl rfl (kk_wl ?_))
    refine wl_nil ?_
    refine ex_seq ?_
    refine cw_ret ?_
    obtain rfl := Option.some.inj h
    exact ex_r1 Tb rfl (.tmp rfl) (fun wq hq => ⟨_, rfl, hq.ext, rfl⟩)
  · skip
    replace h := bf cc1 h
    have q2 := leb_false.1 cc1
    refine wl_n rfl rfl rfl rfl ?_
    refine wl_n rfl rfl rfl rfl ?_
    refine wl_n rfl rfl rfl rfl ?_
    refine wl_u rfl (ow_y (yh_pickF rfl rfl rfl) rfl rfl (kk_wl ?_))
    refine wl_u rfl (ow_y (yh_assign rfl rfl) rfl rfl (kk_wl ?_))
    refine wl_nil ?_
    refine ex_seq ?_
    refine cw_ret ?_
    obtain rfl := Option.some.inj h
    exact ex_r1 Tb rfl (.tmp rfl) (fun wq hq => ⟨_, rfl, hq.ext, rfl⟩)

def m_spec_NameValid_L4 (N : Nat) (s_ : Str) : Nat → Nat → Option (Ex (Nat) (Bool))
  | 0, _ => none
  | n + 1, s3 => (ssz s_).bind fun z6 => (bif ltb ((s3 : Nat) : Int) ((s_.size : Nat) : Int) then (bget s_ s3).bind fun y12 => (bif ltb ((y12 : Nat) : Int) 97 then some (Ex.ret false)
 else (bget s_ s3).bind fun y17 => (bif ltb 122 ((y17 : Nat) : Int) then some (Ex.ret false)
 else m_spec_NameValid_L4 N s_ n (s3 + 1)))
 else some (Ex.brk (s3)))

def m_spec_NameValid (N : Nat) (s_ : Str) : Option (Bool) := (m_spec_NameValid_L4 N s_ N 0).bind fun e4 => e4.go (fun r => r) fun b4 => (m_spec_l6In N ((s_.size : Nat) : Int) 1 5).bind fun x22 => some x22

set_option maxHeartbeats 4000000 in
theorem c_spec_NameValid (N : Nat) (s_ : Str) (res : Bool) (h : m_spec_NameValid N s_ = some res) (w : World) : Ret Try.prog 77 [.string s_] w [] fun v w' => v = .bool res := by
  unfold m_spec_NameValid at h
  refine ret_enter Try.func77 rfl Try.ntmps77 rfl (Hp.refl w _) ?_
  refine cw_seq ?_
  refine cw_region ?_
  refine wl_u rfl (ow_y (yh_assign rfl rfl) rfl rfl (kk_wl ?_))
  refine wl_nil ?_
  refine ex_seq ?_
  refine cw_seq ?_
  refine cw_seq ?_
  refine cw_region ?_
  refine wl_u rfl (ow_y (yh_assign rfl rfl) rfl rfl (kk_wl ?_))
  refine wl_nil ?_
  refine ex_seq ?_
  refine cw_block ?_
  obtain ⟨e4, he4, hk4⟩ := bd h
  clear h
  refine cw_loopG (σ := Nat × Nat) (fun s => m_spec_NameValid_L4 N s_ s.1 s.2 = some e4) (fun s => [(0, .string s_), (3, .int .i64 ((s.2 : Nat) : Int))]) (fun s => []) (fun s => s.1) (N, 0) [] he4 ⟨rfl, rfl, trivial⟩ rfl (fun KL s he4 hn4 => ?_)
  obtain ⟨n4, s3⟩ := s
  simp only at he4 hn4 ⊢
  rcases n4 with _ | n4
  · exact nosome he4
  have h := he4; rw [m_spec_NameValid_L4] at h
  refine cw_seq ?_
  refine cw_seq ?_
  refine cw_region ?_
  refine wl_u rfl (ow_y (yh_move rfl rfl) rfl rfl (kk_wl ?_))
  refine wl_u rfl (ow_y (yh_move rfl rfl) rfl rfl (kk_wl ?_))
  obtain ⟨z6, hz6, h⟩ := bd h
  have mz6 := ssz_some hz6
  refine wl_u rfl (ow_y (yh_lenT Tb rfl rfl rfl rfl) rfl rfl (kk_wl ?_))
  refine wl_u rfl (ow_y (yh_cmpI rfl rfl rfl rfl) rfl rfl (kk_wl ?_))
  refine wl_nil ?_
  refine ex_seq ?_
  refine cw_split rfl (fun cc1 => ?_) (fun cc1 => ?_)
  · skip
    replace h := bt cc1 h
    have q1 := ltb_true.1 cc1
    refine cw_skip ?_
    refine ex_seq ?_
    refine cw_seq ?_
    refine cw_block ?_
    refine cw_seq ?_
    refine cw_region ?_
    refine wl_u rfl (ow_y (yh_move rfl rfl) rfl rfl (kk_wl ?_))
    refine wl_u rfl (ow_y (yh_move rfl rfl) rfl rfl (kk_wl ?_))
    obtain ⟨y12, hy12, h⟩ := bd h
    refine wl_u rfl (ow_y (yh_indexS Tb (k := s3) rfl rfl rfl rfl hy12 rfl) rfl rfl (kk_wl ?_))
    refine wl_u rfl (ow_y (yh_cmpI rfl rfl rfl rfl) rfl rfl (kk_wl ?_))
    refine wl_u rfl (ow_y (yh_move rfl rfl) rfl rfl (kk_wl ?_))
    refine wl_s rfl rfl (fun cc2 => ?_) (fun cc2 => ?_)
    · skip
      replace h := bt cc2 h
      have q2 := ltb_true.1 cc2
      refine wl_n rfl rfl rfl rfl ?_
      refine wl_n rfl rfl rfl rfl ?_
      refine wl_n rfl rfl rfl rfl ?_
      refine wl_n rfl rfl rfl rfl ?_
      refine wl_u rfl (ow_y (yh_pickT rfl rfl rfl) rfl rfl (kk_wl ?_))
      refine wl_nil ?_
      refine ex_seq ?_
      refine cw_true rfl ?_
      refine cw_seq ?_
      refine cw_region ?_
      refine wl_u rfl (ow_y (yh_assign rfl rfl) rfl rfl (kk_wl ?_))
      refine wl_nil ?_
      refine ex_seq ?_
      refine cw_ret ?_
      refine ex_block_ret ?_
      refine ex_then_ret ?_
      refine ex_then_ret ?_
      refine ex_block_ret ?_
      refine ex_then_ret ?_
      obtain rfl := Option.some.inj h
      obtain rfl := go_ret hk4
      exact ex_r1 Tb rfl (.tmp rfl) (fun wq hq => ⟨_, rfl, hq.ext, rfl⟩)
    · skip
      replace h := bf cc2 h
      have q3 := ltb_false.1 cc2
      refine wl_g rfl rfl (ow_y (yh_move rfl rfl) rfl rfl (kk_wl ?_))
      refine wl_g rfl rfl (ow_y (yh_move rfl rfl) rfl rfl (kk_wl ?_))
      obtain ⟨y17, hy17, h⟩ := bd h
      refine wl_g rfl rfl (ow_y (yh_indexS Tb (k := s3) rfl rfl rfl rfl hy17 rfl) rfl rfl (kk_wl ?_))
      refine wl_g rfl rfl (ow_y (yh_cmpI rfl rfl rfl rfl) rfl rfl (kk_wl ?_))
      refine wl_u rfl (ow_y (yh_pickF rfl rfl rfl) rfl rfl (kk_wl ?_))
      refine wl_nil ?_
      refine ex_seq ?_
      refine cw_split rfl (fun cc3 => ?_) (fun cc3 => ?_)
      · skip
        replace h := bt cc3 h
        have q4 := ltb_true.1 cc3
        refine cw_seq ?_
        refine cw_region ?_
        refine wl_u rfl (ow_y (yh_assign rfl rfl) rfl rfl (kk_wl ?_))
        refine wl_nil ?_
        refine ex_seq ?_
        refine cw_ret ?_
        refine ex_block_ret ?_
        refine ex_then_ret ?_
        refine ex_then_ret ?_
        refine ex_block_ret ?_
        refine ex_then_ret ?_
        obtain rfl := Option.some.inj h
        obtain rfl := go_ret hk4
        exact ex_r1 Tb rfl (.tmp rfl) (fun wq hq => ⟨_, rfl, hq.ext, rfl⟩)
      · skip
        replace h := bf cc3 h
        have q5 := ltb_false.1 cc3
        refine cw_skip ?_
        refine ex_block_normal ?_
        refine ex_seq ?_
        refine cw_region ?_
        refine wl_u rfl (ow_y (yh_move rfl rfl) rfl rfl (kk_wl ?_))
        refine wl_u rfl (ow_y (yh_arI rfl rfl rfl rfl (by omega)) rfl rfl (kk_wl ?_))
        refine wl_u rfl (ow_y (yh_assign rfl rfl) rfl rfl (kk_wl ?_))
        refine wl_nil ?_
        exact ex_next [] (hn4 (n4, s3 + 1) (Nat.lt_succ_self _) h) ⟨rfl, rfl, trivial⟩ (by kernel_rfl)
  · skip
    replace h := bf cc1 h
    have q6 := ltb_false.1 cc1
    refine cw_exit ?_
    refine ex_then_exit ?_
    refine ex_then_exit ?_
    obtain rfl := Option.some.inj h
    have h := go_brk hk4
    refine ex_block_exit ?_
    refine ex_seq ?_
    refine cw_seq ?_
    refine cw_region ?_
    refine wl_u rfl (ow_y (yh_move rfl rfl) rfl rfl (kk_wl ?_))
    refine wl_u rfl (ow_y (yh_lenT Tb rfl rfl rfl rfl) rfl rfl (kk_wl ?_))
    obtain ⟨x22, hx22, h⟩ := bd h
    refine wl_u rfl (ow_cV rfl hb75 rfl (fun w hw => c_spec_l6In N _ _ _ _ hx22 w) rfl rfl (kk_wl ?_))
    refine wl_u rfl (ow_y (yh_assign rfl rfl) rfl rfl (kk_wl ?_))
    refine wl_nil ?_
    refine ex_seq ?_
    refine cw_ret ?_
    obtain rfl := Option.some.inj h
    exact ex_r1 Tb rfl (.tmp rfl) (fun wq hq => ⟨_, rfl, hq.ext, rfl⟩)

def m_spec_l1At_L4 (N : Nat) (list_ : List Str) (name : Str) : Nat → Nat → Option (Ex (Nat) (Int))
  | 0, _ => none
  | n + 1, s5 => (bif ltb ((s5 : Nat) : Int) ((list_.length : Nat) : Int) then (list_[s5]?).bind fun y14 => (bif seq y14 name then some (Ex.ret ((s5 : Nat) : Int))
 else m_spec_l1At_L4 N list_ name n (s5 + 1))
 else some (Ex.brk (s5)))

def m_spec_l1At (N : Nat) (list_ : List Str) (name : Str) : Option (Int) := (m_spec_l1At_L4 N list_ name N 0).bind fun e4 => e4.go (fun r => r) fun b4 => some (-1)

set_option maxHeartbeats 4000000 in
theorem c_spec_l1At (N : Nat) (list_ : List Str) (name : Str) (res : Int) (h : m_spec_l1At N list_ name = some res) (w : World) {a_list_ : Option Addr} {c_list_ : Nat} (h_list_ : strsL.rd w [] [.slice a_list_ list_.length c_list_] list_) : Ret Try.prog 78 [.slice a_list_ list_.length c_list_, .string name] w [] fun v w' => v = .int .i64 res := by
  have mh_list_ := rd_max h_list_
  unfold m_spec_l1At at h
  refine ret_enter Try.func78 rfl Try.ntmps78 rfl (Hp.refl w _) ?_
  refine cw_seq ?_
  refine cw_region ?_
  refine wl_u rfl (ow_y (yh_assign rfl rfl) rfl rfl (kk_wl ?_))
  refine wl_nil ?_
  refine ex_seq ?_
  refine cw_seq ?_
  refine cw_seq ?_
  refine cw_region ?_
  refine wl_u rfl (ow_y (yh_assign rfl rfl) rfl rfl (kk_wl ?_))
  refine wl_nil ?_
  refine ex_seq ?_
  refine cw_block ?_
  obtain ⟨e4, he4, hk4⟩ := bd h
  clear h
  refine cw_loopG (σ := Nat × Nat) (fun s => m_spec_l1At_L4 N list_ name s.1 s.2 = some e4) (fun s => [(0, .slice a_list_ list_.length c_list_), (1, .string name), (5, .int .i64 ((s.2 : Nat) : Int))]) (fun s => []) (fun s => s.1) (N, 0) [] he4 ⟨rfl, rfl, rfl, trivial⟩ rfl (fun KL s he4 hn4 => ?_)
  obtain ⟨n4, s5⟩ := s
  simp only at he4 hn4 ⊢
  rcases n4 with _ | n4
  · exact nosome he4
  have h := he4; rw [m_spec_l1At_L4] at h
  refine cw_seq ?_
  refine cw_seq ?_
  refine cw_region ?_
  refine wl_u rfl (ow_y (yh_move rfl rfl) rfl rfl (kk_wl ?_))
  refine wl_u rfl (ow_y (yh_move rfl rfl) rfl rfl (kk_wl ?_))
  refine wl_u rfl (ow_y (yh_lenS Tb rfl rfl rfl rfl) rfl rfl (kk_wl ?_))
  refine wl_u rfl (ow_y (yh_cmpI rfl rfl rfl rfl) rfl rfl (kk_wl ?_))
  refine wl_nil ?_
  refine ex_seq ?_
  refine cw_split rfl (fun cc1 => ?_) (fun cc1 => ?_)
  · skip
    replace h := bt cc1 h
    have q1 := ltb_true.1 cc1
    refine cw_skip ?_
    refine ex_seq ?_
    refine cw_seq ?_
    refine cw_block ?_
    refine cw_seq ?_
    refine cw_region ?_
    refine wl_u rfl (ow_y (yh_move rfl rfl) rfl rfl (kk_wl ?_))
    refine wl_u rfl (ow_y (yh_move rfl rfl) rfl rfl (kk_wl ?_))
    obtain ⟨y14, hy14, h⟩ := bd h
    obtain ⟨b14, o14, ha14⟩ := sl_addr h_list_ hy14
    subst ha14
    have hc14 := get_str h_list_ hy14
    refine wl_u rfl (ow_y (yh_idx Tb (k := s5) rfl rfl rfl rfl (get_lt hy14) rfl rfl) rfl rfl (kk_wl ?_))
    refine wl_u rfl (ow_y (yh_loadA0 Tb rfl rfl rfl hc14 rfl) rfl rfl (kk_wl ?_))
    refine wl_u rfl (ow_y (yh_move rfl rfl) rfl rfl (kk_wl ?_))
    refine wl_u rfl (ow_y (yh_cmpS rfl rfl rfl rfl) rfl rfl (kk_wl ?_))
    refine wl_nil ?_
    refine ex_seq ?_
    refine cw_split rfl (fun cc2 => ?_) (fun cc2 => ?_)
    · skip
      replace h := bt cc2 h
      refine cw_seq ?_
      refine cw_region ?_
      refine wl_u rfl (ow_y (yh_move rfl rfl) rfl rfl (kk_wl ?_))
      refine wl_u rfl (ow_y (yh_assign rfl rfl) rfl rfl (kk_wl ?_))
      refine wl_nil ?_
      refine ex_seq ?_
      refine cw_ret ?_
      refine ex_block_ret ?_
      refine ex_then_ret ?_
      refine ex_then_ret ?_
      refine ex_block_ret ?_
      refine ex_then_ret ?_
      obtain rfl := Option.some.inj h
      obtain rfl := go_ret hk4
      exact ex_r1 Tb rfl (.tmp rfl) (fun wq hq => ⟨_, rfl, hq.ext, rfl⟩)
    · skip
      replace h := bf cc2 h
      refine cw_skip ?_
      refine ex_block_normal ?_
      refine ex_seq ?_
      refine cw_region ?_
      refine wl_u rfl (ow_y (yh_move rfl rfl) rfl rfl (kk_wl ?_))
      refine wl_u rfl (ow_y (yh_arI rfl rfl rfl rfl (by omega)) rfl rfl (kk_wl ?_))
      refine wl_u rfl (ow_y (yh_assign rfl rfl) rfl rfl (kk_wl ?_))
      refine wl_nil ?_
      exact ex_next [] (hn4 (n4, s5 + 1) (Nat.lt_succ_self _) h) ⟨rfl, rfl, rfl, trivial⟩ (by kernel_rfl)
  · skip
    replace h := bf cc1 h
    have q2 := ltb_false.1 cc1
    refine cw_exit ?_
    refine ex_then_exit ?_
    refine ex_then_exit ?_
    obtain rfl := Option.some.inj h
    have h := go_brk hk4
    refine ex_block_exit ?_
    refine ex_seq ?_
    refine cw_seq ?_
    refine cw_region ?_
    refine wl_u rfl (ow_y (yh_assign rfl rfl) rfl rfl (kk_wl ?_))
    refine wl_nil ?_
    refine ex_seq ?_
    refine cw_ret ?_
    obtain rfl := Option.some.inj h
    exact ex_r1 Tb rfl (.tmp rfl) (fun wq hq => ⟨_, rfl, hq.ext, rfl⟩)

def m_spec_StepValid_L5 (N : Nat) (s_ : Step) : Nat → Nat → Option (Ex (Nat) (Bool))
  | 0, _ => none
  | n + 1, s3 => (bif ltb ((s3 : Nat) : Int) ((s_.after.length : Nat) : Int) then (s_.after[s3]?).bind fun y14 => (m_spec_NameValid N y14).bind fun x16 => (bif !x16 then some (Ex.ret false)
 else (bif ltb 0 ((s3 : Nat) : Int) then (geti s_.after (((s3 : Nat) : Int) - 1)).bind fun y26 => (bif !(slt y26 y14) then some (Ex.ret false)
 else m_spec_StepValid_L5 N s_ n (s3 + 1))
 else m_spec_StepValid_L5 N s_ n (s3 + 1)))
 else some (Ex.brk (s3)))

def m_spec_StepValid (N : Nat) (s_ : Step) : Option (Bool) := (m_spec_StepValid_L5 N s_ N 0).bind fun e5 => e5.go (fun r => r) fun b5 => (m_spec_NameValid N s_.name).bind fun x38 => (bif x38 then (m_spec_l1At N s_.after s_.name).bind fun x44 => (bif ltb x44 0 then some (leb ((s_.after.length : Nat) : Int) 4)
 else some false)
 else some false)

set_option maxHeartbeats 4000000 in
theorem c_spec_StepValid (N : Nat) (s_ : Step) (res : Bool) (h : m_spec_StepValid N s_ = some res) (w : World) {a_s__after : Option Addr} {c_s__after : Nat} (h_s__after : strsL.rd w [] [.slice a_s__after s_.after.length c_s__after] s_.after) : Ret Try.prog 39 [.agg #[.string s_.name, .slice a_s__after s_.after.length c_s__after, .bool s_.undo]] w [] fun v w' => v = .bool res := by
  have mh_s__after := rd_max h_s__after
  unfold m_spec_StepValid at h
  refine ret_enter Try.func39 rfl Try.ntmps39 rfl (Hp.refl w _) ?_
  refine cw_seq ?_
  refine cw_region ?_
  refine wl_u rfl (ow_boxA rfl rfl rfl rfl (fun g1 => kk_wl ?_))
  refine wl_u rfl (ow_y (yh_assign rfl rfl) rfl rfl (kk_wl ?_))
  refine wl_nil ?_
  refine ex_seq ?_
  refine cw_seq ?_
  refine cw_seq ?_
  refine cw_region ?_
  refine wl_u rfl (ow_y (yh_assign rfl rfl) rfl rfl (kk_wl ?_))
  refine wl_nil ?_
  refine ex_seq ?_
  refine cw_block ?_
  obtain ⟨e5, he5, hk5⟩ := bd h
  clear h
  refine cw_loopG (σ := Nat × Nat) (fun s => m_spec_StepValid_L5 N s_ s.1 s.2 = some e5) (fun s => [(1, .pointer (some ⟨g1, 0, none⟩)), (3, .int .i64 ((s.2 : Nat) : Int))]) (fun s => [blkC g1 28 [.string s_.name, .slice a_s__after s_.after.length c_s__after, .bool s_.undo]]) (fun s => s.1) (N, 0) [0] he5 ⟨rfl, rfl, trivial⟩ rfl (fun KL s he5 hn5 => ?_)
  obtain ⟨n5, s3⟩ := s
  simp only at he5 hn5 ⊢
  rcases n5 with _ | n5
  · exact nosome he5
  have h := he5; rw [m_spec_StepValid_L5] at h
  refine cw_seq ?_
  refine cw_seq ?_
  refine cw_region ?_
  refine wl_u rfl (ow_y (yh_move rfl rfl) rfl rfl (kk_wl ?_))
  refine wl_u rfl (ow_y (yh_field Tb rfl rfl rfl) rfl rfl (kk_wl ?_))
  refine wl_u rfl (ow_y (yh_loadB Tb (k := 0) rfl rfl rfl rfl rfl) rfl rfl (kk_wl ?_))
  refine wl_u rfl (ow_y (yh_lenS Tb rfl rfl rfl rfl) rfl rfl (kk_wl ?_))
  refine wl_u rfl (ow_y (yh_cmpI rfl rfl rfl rfl) rfl rfl (kk_wl ?_))
  refine wl_nil ?_
  refine ex_seq ?_
  refine cw_split rfl (fun cc1 => ?_) (fun cc1 => ?_)
  · skip
    replace h := bt cc1 h
    have q1 := ltb_true.1 cc1
    refine cw_skip ?_
    refine ex_seq ?_
    refine cw_seq ?_
    refine cw_block ?_
    refine cw_seq ?_
    refine cw_dr [0, 1, 2, 3, 4, 6, 7, 8, 9, 10, 11, 12, 13, 14, 15, 16, 17, 18, 19, 20, 21, 22, 23, 24] [] [blkC g1 28 [.string s_.name, .slice a_s__after s_.after.length c_s__after, .bool s_.undo]] (by kernel_rfl) ?_
    refine wd_take (i := 0) [0] rfl rfl rfl rfl rfl (by kernel_rfl) (by kernel_rfl) (fun _ _ _ _ h => h) (yh_field Tb rfl rfl rfl) ?_
    refine wd_take (i := 1) [0] rfl rfl rfl rfl rfl (by kernel_rfl) (by kernel_rfl) (fun _ _ _ _ h => h) (yh_loadB Tb (k := 0) rfl rfl rfl rfl rfl) ?_
    refine wd_take (i := 2) [0] rfl rfl rfl rfl rfl (by kernel_rfl) (by kernel_rfl) (fun _ _ _ _ h => h) (yh_move rfl rfl) ?_
    obtain ⟨y14, hy14, h⟩ := bd h
    obtain ⟨b14, o14, ha14⟩ := sl_addr h_s__after hy14
    subst ha14
    have hc14 := get_str h_s__after hy14
    refine wd_take (i := 3) [0] rfl rfl rfl rfl rfl (by kernel_rfl) (by kernel_rfl) (fun _ _ _ _ h => h) (yh_idx Tb (k := s3) rfl rfl rfl rfl (get_lt hy14) rfl rfl) ?_
    refine wd_take (i := 4) [0] rfl rfl rfl rfl rfl (by kernel_rfl) (by kernel_rfl) (fun _ _ _ _ h => h) (yh_loadA0 Tb rfl rfl rfl hc14 rfl) ?_
    obtain ⟨x16, hx16, h⟩ := bd h
    refine wd_one 5 rfl rfl (by kernel_rfl) (ow_cV rfl hb77 rfl (fun w hw => c_spec_NameValid N _ _ hx16 w) rfl rfl (kk_wd [0] (by kernel_rfl) ?_))
    refine wd_take (i := 6) [0] rfl rfl rfl rfl rfl (by kernel_rfl) (by kernel_rfl) (fun _ _ _ _ h => h) (yh_not rfl rfl) ?_
    refine wd_take (i := 7) [0] rfl rfl rfl rfl rfl (by kernel_rfl) (by kernel_rfl) (fun _ _ _ _ h => h) (yh_move rfl rfl) ?_
    refine wd_split 8 rfl rfl rfl (fun cc2 => ?_) (fun cc2 => ?_)
    · skip
      replace h := bt cc2 h
      refine wd_skip (i := 8) [0] rfl rfl rfl rfl (by kernel_rfl) (by kernel_rfl) (fun _ _ _ h => h) ?_
      refine wd_skip (i := 9) [0] rfl rfl rfl rfl (by kernel_rfl) (by kernel_rfl) (fun _ _ _ h => h) ?_
      refine wd_skip (i := 10) [0] rfl rfl rfl rfl (by kernel_rfl) (by kernel_rfl) (fun _ _ _ h => h) ?_
      refine wd_skip (i := 11) [0] rfl rfl rfl rfl (by kernel_rfl) (by kernel_rfl) (fun _ _ _ h => h) ?_
      refine wd_skip (i := 12) [0] rfl rfl rfl rfl (by kernel_rfl) (by kernel_rfl) (fun _ _ _ h => h) ?_
      refine wd_skip (i := 13) [0] rfl rfl rfl rfl (by kernel_rfl) (by kernel_rfl) (fun _ _ _ h => h) ?_
      refine wd_skip (i := 14) [0] rfl rfl rfl rfl (by kernel_rfl) (by kernel_rfl) (fun _ _ _ h => h) ?_
      refine wd_skip (i := 15) [0] rfl rfl rfl rfl (by kernel_rfl) (by kernel_rfl) (fun _ _ _ h => h) ?_
      refine wd_skip (i := 16) [0] rfl rfl rfl rfl (by kernel_rfl) (by kernel_rfl) (fun _ _ _ h => h) ?_
      refine wd_skip (i := 17) [0] rfl rfl rfl rfl (by kernel_rfl) (by kernel_rfl) (fun _ _ _ h => h) ?_
      refine wd_skip (i := 18) [0] rfl rfl rfl rfl (by kernel_rfl) (by kernel_rfl) (fun _ _ _ h => h) ?_
      refine wd_skip (i := 19) [0] rfl rfl rfl rfl (by kernel_rfl) (by kernel_rfl) (fun _ _ _ h => h) ?_
      refine wd_skip (i := 20) [0] rfl rfl rfl rfl (by kernel_rfl) (by kernel_rfl) (fun _ _ _ h => h) ?_
      refine wd_skip (i := 21) [0] rfl rfl rfl rfl (by kernel_rfl) (by kernel_rfl) (fun _ _ _ h => h) ?_
      refine wd_skip (i := 22) [0] rfl rfl rfl rfl (by kernel_rfl) (by kernel_rfl) (fun _ _ _ h => h) ?_
      refine wd_skip (i := 23) [0] rfl rfl rfl rfl (by kernel_rfl) (by kernel_rfl) (fun _ _ _ h => h) ?_
      refine wd_take (i := 24) [0] rfl rfl rfl rfl rfl (by kernel_rfl) (by kernel_rfl) (fun _ _ _ _ h => h) (yh_pickT rfl rfl rfl) ?_
      refine wd_done (by kernel_rfl) ?_
      refine ex_seq ?_
      refine cw_true rfl ?_
      refine cw_seq ?_
      refine cw_region ?_
      refine wl_u rfl (ow_y (yh_assign rfl rfl) rfl rfl (kk_wl ?_))
      refine wl_nil ?_
      refine ex_seq ?_
      refine cw_ret ?_
      refine ex_block_ret ?_
      refine ex_then_ret ?_
      refine ex_then_ret ?_
      refine ex_block_ret ?_
      refine ex_then_ret ?_
      obtain rfl := Option.some.inj h
      obtain rfl := go_ret hk5
      exact ex_r1 Tb rfl (.tmp rfl) (fun wq hq => ⟨_, rfl, hq.ext, rfl⟩)
    · skip
      replace h := bf cc2 h
      refine wd_take (i := 8) [0] rfl rfl rfl rfl rfl (by kernel_rfl) (by kernel_rfl) (fun _ _ _ _ h => h) (yh_move rfl rfl) ?_
      refine wd_take (i := 9) [0] rfl rfl rfl rfl rfl (by kernel_rfl) (by kernel_rfl) (fun _ _ _ _ h => h) (yh_cmpI rfl rfl rfl rfl) ?_
      refine wd_take (i := 10) [0] rfl rfl rfl rfl rfl (by kernel_rfl) (by kernel_rfl) (fun _ _ _ _ h => h) (yh_move rfl rfl) ?_
      refine wd_split 11 rfl rfl rfl (fun cc3 => ?_) (fun cc3 => ?_)
      · skip
        replace h := bt cc3 h
        have q2 := ltb_true.1 cc3
        refine wd_take (i := 11) [0] rfl rfl rfl rfl rfl (by kernel_rfl) (by kernel_rfl) (fun _ _ _ _ h => h) (yh_field Tb rfl rfl rfl) ?_
        refine wd_take (i := 12) [0] rfl rfl rfl rfl rfl (by kernel_rfl) (by kernel_rfl) (fun _ _ _ _ h => h) (yh_loadB Tb (k := 0) rfl rfl rfl rfl rfl) ?_
        refine wd_take (i := 13) [0] rfl rfl rfl rfl rfl (by kernel_rfl) (by kernel_rfl) (fun _ _ _ _ h => h) (yh_move rfl rfl) ?_
        refine wd_take (i := 14) [0] rfl rfl rfl rfl rfl (by kernel_rfl) (by kernel_rfl) (fun _ _ _ _ h => h) (yh_arI rfl rfl rfl rfl (by omega)) ?_
        obtain ⟨y26, zy26, h⟩ := bd h
        obtain ⟨iy26, hy26⟩ := geti_some zy26
        have hc26 := get_str h_s__after hy26
        refine wd_take (i := 15) [0] rfl rfl rfl rfl rfl (by kernel_rfl) (by kernel_rfl) (fun _ _ _ _ h => h) (yh_idx Tb (k := (((s3 : Nat) : Int) - 1).toNat) rfl rfl rfl iy26 (get_lt hy26) rfl rfl) ?_
        refine wd_take (i := 16) [0] rfl rfl rfl rfl rfl (by kernel_rfl) (by kernel_rfl) (fun _ _ _ _ h => h) (yh_loadA0 Tb rfl rfl rfl hc26 rfl) ?_
        refine wd_take (i := 17) [0] rfl rfl rfl rfl rfl (by kernel_rfl) (by kernel_rfl) (fun _ _ _ _ h => h) (yh_field Tb rfl rfl rfl) ?_
        refine wd_take (i := 18) [0] rfl rfl rfl rfl rfl (by kernel_rfl) (by kernel_rfl) (fun _ _ _ _ h => h) (yh_loadB Tb (k := 0) rfl rfl rfl rfl rfl) ?_
        refine wd_take (i := 19) [0] rfl rfl rfl rfl rfl (by kernel_rfl) (by kernel_rfl) (fun _ _ _ _ h => h) (yh_move rfl rfl) ?_
        refine wd_take (i := 20) [0] rfl rfl rfl rfl rfl (by kernel_rfl) (by kernel_rfl) (fun _ _ _ _ h => h) (yh_idx Tb (k := s3) rfl rfl rfl rfl (get_lt hy14) rfl rfl) ?_
        refine wd_take (i := 21) [0] rfl rfl rfl rfl rfl (by kernel_rfl) (by kernel_rfl) (fun _ _ _ _ h => h) (yh_loadA0 Tb rfl rfl rfl hc14 rfl) ?_
        refine wd_take (i := 22) [0] rfl rfl rfl rfl rfl (by kernel_rfl) (by kernel_rfl) (fun _ _ _ _ h => h) (yh_cmpS rfl rfl rfl rfl) ?_
        refine wd_take (i := 23) [0] rfl rfl rfl rfl rfl (by kernel_rfl) (by kernel_rfl) (fun _ _ _ _ h => h) (yh_pickT rfl rfl rfl) ?_
        refine wd_take (i := 24) [0] rfl rfl rfl rfl rfl (by kernel_rfl) (by kernel_rfl) (fun _ _ _ _ h => h) (yh_pickF rfl rfl rfl) ?_
        refine wd_done (by kernel_rfl) ?_
        refine ex_seq ?_
        refine cw_split rfl (fun cc4 => ?_) (fun cc4 => ?_)
        · skip
          replace h := bt cc4 h
          refine cw_seq ?_
          refine cw_region ?_
          refine wl_u rfl (ow_y (yh_assign rfl rfl) rfl rfl (kk_wl ?_))
          refine wl_nil ?_
          refine ex_seq ?_
          refine cw_ret ?_
          refine ex_block_ret ?_
          refine ex_then_ret ?_
          refine ex_then_ret ?_
          refine ex_block_ret ?_
          refine ex_then_ret ?_
          obtain rfl := Option.some.inj h
          obtain rfl := go_ret hk5
          exact ex_r1 Tb rfl (.tmp rfl) (fun wq hq => ⟨_, rfl, hq.ext, rfl⟩)
        · skip
          replace h := bf cc4 h
          refine cw_skip ?_
          refine ex_block_normal ?_
          refine ex_seq ?_
          refine cw_region ?_
          refine wl_u rfl (ow_y (yh_move rfl rfl) rfl rfl (kk_wl ?_))
          refine wl_u rfl (ow_y (yh_arI rfl rfl rfl rfl (by omega)) rfl rfl (kk_wl ?_))
          refine wl_u rfl (ow_y (yh_assign rfl rfl) rfl rfl (kk_wl ?_))
          refine wl_nil ?_
          exact ex_next [0] (hn5 (n5, s3 + 1) (Nat.lt_succ_self _) h) ⟨rfl, rfl, trivial⟩ (by kernel_rfl)
      · skip
        replace h := bf cc3 h
        have q3 := ltb_false.1 cc3
        refine wd_skip (i := 11) [0] rfl rfl rfl rfl (by kernel_rfl) (by kernel_rfl) (fun _ _ _ h => h) ?_
        refine wd_skip (i := 12) [0] rfl rfl rfl rfl (by kernel_rfl) (by kernel_rfl) (fun _ _ _ h => h) ?_
        refine wd_skip (i := 13) [0] rfl rfl rfl rfl (by kernel_rfl) (by kernel_rfl) (fun _ _ _ h => h) ?_
        refine wd_skip (i := 14) [0] rfl rfl rfl rfl (by kernel_rfl) (by kernel_rfl) (fun _ _ _ h => h) ?_
        refine wd_skip (i := 15) [0] rfl rfl rfl rfl (by kernel_rfl) (by kernel_rfl) (fun _ _ _ h => h) ?_
        refine wd_skip (i := 16) [0] rfl rfl rfl rfl (by kernel_rfl) (by kernel_rfl) (fun _ _ _ h => h) ?_
        refine wd_skip (i := 17) [0] rfl rfl rfl rfl (by kernel_rfl) (by kernel_rfl) (fun _ _ _ h => h) ?_
        refine wd_skip (i := 18) [0] rfl rfl rfl rfl (by kernel_rfl) (by kernel_rfl) (fun _ _ _ h => h) ?_
        refine wd_skip (i := 19) [0] rfl rfl rfl rfl (by kernel_rfl) (by kernel_rfl) (fun _ _ _ h => h) ?_
        refine wd_skip (i := 20) [0] rfl rfl rfl rfl (by kernel_rfl) (by kernel_rfl) (fun _ _ _ h => h) ?_
        refine wd_skip (i := 21) [0] rfl rfl rfl rfl (by kernel_rfl) (by kernel_rfl) (fun _ _ _ h => h) ?_
        refine wd_skip (i := 22) [0] rfl rfl rfl rfl (by kernel_rfl) (by kernel_rfl) (fun _ _ _ h => h) ?_
        refine wd_take (i := 23) [0] rfl rfl rfl rfl rfl (by kernel_rfl) (by kernel_rfl) (fun _ _ _ _ h => h) (yh_pickF rfl rfl rfl) ?_
        refine wd_take (i := 24) [0] rfl rfl rfl rfl rfl (by kernel_rfl) (by kernel_rfl) (fun _ _ _ _ h => h) (yh_pickF rfl rfl rfl) ?_
        refine wd_done (by kernel_rfl) ?_
        refine ex_seq ?_
        refine cw_false rfl ?_
        refine cw_skip ?_
        refine ex_block_normal ?_
        refine ex_seq ?_
        refine cw_region ?_
        refine wl_u rfl (ow_y (yh_move rfl rfl) rfl rfl (kk_wl ?_))
        refine wl_u rfl (ow_y (yh_arI rfl rfl rfl rfl (by omega)) rfl rfl (kk_wl ?_))
        refine wl_u rfl (ow_y (yh_assign rfl rfl) rfl rfl (kk_wl ?_))
        refine wl_nil ?_
        exact ex_next [0] (hn5 (n5, s3 + 1) (Nat.lt_succ_self _) h) ⟨rfl, rfl, trivial⟩ (by kernel_rfl)
  · skip
    replace h := bf cc1 h
    have q4 := ltb_false.1 cc1
    refine cw_exit ?_
    refine ex_then_exit ?_
    refine ex_then_exit ?_
    obtain rfl := Option.some.inj h
    have h := go_brk hk5
    refine ex_block_exit ?_
    refine ex_seq ?_
    refine cw_seq ?_
    refine cw_region ?_
    refine wl_u rfl (ow_y (yh_field Tb rfl rfl rfl) rfl rfl (kk_wl ?_))
    refine wl_u rfl (ow_y (yh_loadB Tb (k := 0) rfl rfl rfl rfl rfl) rfl rfl (kk_wl ?_))
    obtain ⟨x38, hx38, h⟩ := bd h
    refine wl_u rfl (ow_cV rfl hb77 rfl (fun w hw => c_spec_NameValid N _ _ hx38 w) rfl rfl (kk_wl ?_))
    refine wl_u rfl (ow_y (yh_move rfl rfl) rfl rfl (kk_wl ?_))
    refine wl_s rfl rfl (fun cc5 => ?_) (fun cc5 => ?_)
    · skip
      replace h := bt cc5 h
      refine wl_g rfl rfl (ow_y (yh_field Tb rfl rfl rfl) rfl rfl (kk_wl ?_))
      refine wl_g rfl rfl (ow_y (yh_loadB Tb (k := 0) rfl rfl rfl rfl rfl) rfl rfl (kk_wl ?_))
      refine wl_g rfl rfl (ow_y (yh_field Tb rfl rfl rfl) rfl rfl (kk_wl ?_))
      refine wl_g rfl rfl (ow_y (yh_loadB Tb (k := 0) rfl rfl rfl rfl rfl) rfl rfl (kk_wl ?_))
      obtain ⟨x44, hx44, h⟩ := bd h
      refine wl_g rfl rfl (ow_cV rfl hb78 rfl (fun w hw => c_spec_l1At N _ _ _ hx44 w (Lay.at_ h_s__after hw)) rfl rfl (kk_wl ?_))
      refine wl_g rfl rfl (ow_y (yh_cmpI rfl rfl rfl rfl) rfl rfl (kk_wl ?_))
      refine wl_u rfl (ow_y (yh_pickT rfl rfl rfl) rfl rfl (kk_wl ?_))
      refine wl_u rfl (ow_y (yh_move rfl rfl) rfl rfl (kk_wl ?_))
      refine wl_s rfl rfl (fun cc6 => ?_) (fun cc6 => ?_)
      · skip
        replace h := bt cc6 h
        have q5 := ltb_true.1 cc6
        refine wl_g rfl rfl (ow_y (yh_field Tb rfl rfl rfl) rfl rfl (kk_wl ?_))
        refine wl_g rfl rfl (ow_y (yh_loadB Tb (k := 0) rfl rfl rfl rfl rfl) rfl rfl (kk_wl ?_))
        refine wl_g rfl rfl (ow_y (yh_lenS Tb rfl rfl rfl rfl) rfl rfl (kk_wl ?_))
        refine wl_g rfl rfl (ow_y (yh_cmpI rfl rfl rfl rfl) rfl rfl (kk_wl ?_))
        refine wl_u rfl (ow_y (yh_pickT rfl rfl rfl) rfl rfl (kk_wl ?_))
        refine wl_u rfl (ow_y (yh_assign rfl rfl) rfl rfl (kk_wl ?_))
        refine wl_nil ?_
        refine ex_seq ?_
        refine cw_ret ?_
        obtain rfl := Option.some.inj h
        exact ex_r1 Tb rfl (.tmp rfl) (fun wq hq => ⟨_, rfl, hq.ext, rfl⟩)
      · skip
        replace h := bf cc6 h
        have q6 := ltb_false.1 cc6
        refine wl_n rfl rfl rfl rfl ?_
        refine wl_n rfl rfl rfl rfl ?_
        refine wl_n rfl rfl rfl rfl ?_
        refine wl_n rfl rfl rfl rfl ?_
        refine wl_u rfl (ow_y (yh_pickF rfl rfl rfl) rfl rfl (kk_wl ?_))
        refine wl_u rfl (ow_y (yh_assign rfl rfl) rfl rfl (kk_wl ?_))
        refine wl_nil ?_
        refine ex_seq ?_
        refine cw_ret ?_
        obtain rfl := Option.some.inj h
        exact ex_r1 Tb rfl (.tmp rfl) (fun wq hq => ⟨_, rfl, hq.ext, rfl⟩)
    · skip
      replace h := bf cc5 h
      refine wl_n rfl rfl rfl rfl ?_
      refine wl_n rfl rfl rfl rfl ?_
      refine wl_n rfl rfl rfl rfl ?_
      refine wl_n rfl rfl rfl rfl ?_
      refine wl_n rfl rfl rfl rfl ?_
      refine wl_n rfl rfl rfl rfl ?_
      refine wl_u rfl (ow_y (yh_pickF rfl rfl rfl) rfl rfl (kk_wl ?_))
      refine wl_u rfl (ow_y (yh_move rfl rfl) rfl rfl (kk_wl ?_))
      refine wl_s rfl rfl nofun (fun _ => ?_)
      refine wl_n rfl rfl rfl rfl ?_
      refine wl_n rfl rfl rfl rfl ?_
      refine wl_n rfl rfl rfl rfl ?_
      refine wl_n rfl rfl rfl rfl ?_
      refine wl_u rfl (ow_y (yh_pickF rfl rfl rfl) rfl rfl (kk_wl ?_))
      refine wl_u rfl (ow_y (yh_assign rfl rfl) rfl rfl (kk_wl ?_))
      refine wl_nil ?_
      refine ex_seq ?_
      refine cw_ret ?_
      obtain rfl := Option.some.inj h
      exact ex_r1 Tb rfl (.tmp rfl) (fun wq hq => ⟨_, rfl, hq.ext, rfl⟩)

def m_spec_l2At_L4 (N : Nat) (steps : List Step) (name : Str) : Nat → Nat → Option (Ex (Nat) (Int))
  | 0, _ => none
  | n + 1, s5 => (bif ltb ((s5 : Nat) : Int) ((steps.length : Nat) : Int) then (steps[s5]?).bind fun y14 => (bif seq y14.name name then some (Ex.ret ((s5 : Nat) : Int))
 else m_spec_l2At_L4 N steps name n (s5 + 1))
 else some (Ex.brk (s5)))

def m_spec_l2At (N : Nat) (steps : List Step) (name : Str) : Option (Int) := (m_spec_l2At_L4 N steps name N 0).bind fun e4 => e4.go (fun r => r) fun b4 => some (-1)

set_option maxHeartbeats 4000000 in
theorem c_spec_l2At (N : Nat) (steps : List Step) (name : Str) (res : Int) (h : m_spec_l2At N steps name = some res) (w : World) {a_steps : Option Addr} {c_steps : Nat} (h_steps : stepsL.rd w [] [.slice a_steps steps.length c_steps] steps) : Ret Try.prog 74 [.slice a_steps steps.length c_steps, .string name] w [] fun v w' => v = .int .i64 res := by
  have mh_steps := rd_max h_steps
  unfold m_spec_l2At at h
  refine ret_enter Try.func74 rfl Try.ntmps74 rfl (Hp.refl w _) ?_
  refine cw_seq ?_
  refine cw_region ?_
  refine wl_u rfl (ow_y (yh_assign rfl rfl) rfl rfl (kk_wl ?_))
  refine wl_nil ?_
  refine ex_seq ?_
  refine cw_seq ?_
  refine cw_seq ?_
  refine cw_region ?_
  refine wl_u rfl (ow_y (yh_assign rfl rfl) rfl rfl (kk_wl ?_))
  refine wl_nil ?_
  refine ex_seq ?_
  refine cw_block ?_
  obtain ⟨e4, he4, hk4⟩ := bd h
  clear h
  refine cw_loopG (σ := Nat × Nat) (fun s => m_spec_l2At_L4 N steps name s.1 s.2 = some e4) (fun s => [(0, .slice a_steps steps.length c_steps), (1, .string name), (5, .int .i64 ((s.2 : Nat) : Int))]) (fun s => []) (fun s => s.1) (N, 0) [] he4 ⟨rfl, rfl, rfl, trivial⟩ rfl (fun KL s he4 hn4 => ?_)
  obtain ⟨n4, s5⟩ := s
  simp only at he4 hn4 ⊢
  rcases n4 with _ | n4
  · exact nosome he4
  have h := he4; rw [m_spec_l2At_L4] at h
  refine cw_seq ?_
  refine cw_seq ?_
  refine cw_region ?_
  refine wl_u rfl (ow_y (yh_move rfl rfl) rfl rfl (kk_wl ?_))
  refine wl_u rfl (ow_y (yh_move rfl rfl) rfl rfl (kk_wl ?_))
  refine wl_u rfl (ow_y (yh_lenS Tb rfl rfl rfl rfl) rfl rfl (kk_wl ?_))
  refine wl_u rfl (ow_y (yh_cmpI rfl rfl rfl rfl) rfl rfl (kk_wl ?_))
  refine wl_nil ?_
  refine ex_seq ?_
  refine cw_split rfl (fun cc1 => ?_) (fun cc1 => ?_)
  · skip
    replace h := bt cc1 h
    have q1 := ltb_true.1 cc1
    refine cw_skip ?_
    refine ex_seq ?_
    refine cw_seq ?_
    refine cw_block ?_
    refine cw_seq ?_
    refine cw_region ?_
    refine wl_u rfl (ow_y (yh_move rfl rfl) rfl rfl (kk_wl ?_))
    refine wl_u rfl (ow_y (yh_move rfl rfl) rfl rfl (kk_wl ?_))
    obtain ⟨y14, hy14, h⟩ := bd h
    obtain ⟨b14, o14, ha14⟩ := sl_addr h_steps hy14
    subst ha14
    obtain ⟨a14, e14, hc14, hf14⟩ := get_step h_steps hy14
    have mx14 := rd_max hf14
    refine wl_u rfl (ow_y (yh_idx Tb (k := s5) rfl rfl rfl rfl (get_lt hy14) rfl rfl) rfl rfl (kk_wl ?_))
    refine wl_u rfl (ow_y (yh_field Tb rfl rfl rfl) rfl rfl (kk_wl ?_))
    refine wl_u rfl (ow_y (yh_loadAF Tb (j := 0) rfl rfl rfl hc14 rfl) rfl rfl (kk_wl ?_))
    refine wl_u rfl (ow_y (yh_move rfl rfl) rfl rfl (kk_wl ?_))
    refine wl_u rfl (ow_y (yh_cmpS rfl rfl rfl rfl) rfl rfl (kk_wl ?_))
    refine wl_nil ?_
    refine ex_seq ?_
    refine cw_split rfl (fun cc2 => ?_) (fun cc2 => ?_)
    · skip
      replace h := bt cc2 h
      refine cw_seq ?_
      refine cw_region ?_
      refine wl_u rfl (ow_y (yh_move rfl rfl) rfl rfl (kk_wl ?_))
      refine wl_u rfl (ow_y (yh_assign rfl rfl) rfl rfl (kk_wl ?_))
      refine wl_nil ?_
      refine ex_seq ?_
      refine cw_ret ?_
      refine ex_block_ret ?_
      refine ex_then_ret ?_
      refine ex_then_ret ?_
      refine ex_block_ret ?_
      refine ex_then_ret ?_
      obtain rfl := Option.some.inj h
      obtain rfl := go_ret hk4
      exact ex_r1 Tb rfl (.tmp rfl) (fun wq hq => ⟨_, rfl, hq.ext, rfl⟩)
    · skip
      replace h := bf cc2 h
      refine cw_skip ?_
      refine ex_block_normal ?_
      refine ex_seq ?_
      refine cw_region ?_
      refine wl_u rfl (ow_y (yh_move rfl rfl) rfl rfl (kk_wl ?_))
      refine wl_u rfl (ow_y (yh_arI rfl rfl rfl rfl (by omega)) rfl rfl (kk_wl ?_))
      refine wl_u rfl (ow_y (yh_assign rfl rfl) rfl rfl (kk_wl ?_))
      refine wl_nil ?_
      exact ex_next [] (hn4 (n4, s5 + 1) (Nat.lt_succ_self _) h) ⟨rfl, rfl, rfl, trivial⟩ (by kernel_rfl)
  · skip
    replace h := bf cc1 h
    have q2 := ltb_false.1 cc1
    refine cw_exit ?_
    refine ex_then_exit ?_
    refine ex_then_exit ?_
    obtain rfl := Option.some.inj h
    have h := go_brk hk4
    refine ex_block_exit ?_
    refine ex_seq ?_
    refine cw_seq ?_
    refine cw_region ?_
    refine wl_u rfl (ow_y (yh_assign rfl rfl) rfl rfl (kk_wl ?_))
    refine wl_nil ?_
    refine ex_seq ?_
    refine cw_ret ?_
    obtain rfl := Option.some.inj h
    exact ex_r1 Tb rfl (.tmp rfl) (fun wq hq => ⟨_, rfl, hq.ext, rfl⟩)

def m_spec_l1Have_L4 (N : Nat) (list_ : List Str) (names : List Str) : Nat → Nat → Option (Ex (Nat) (Bool))
  | 0, _ => none
  | n + 1, s5 => (bif ltb ((s5 : Nat) : Int) ((names.length : Nat) : Int) then (names[s5]?).bind fun y15 => (m_spec_l1At N list_ y15).bind fun x17 => (bif ltb x17 0 then some (Ex.ret false)
 else m_spec_l1Have_L4 N list_ names n (s5 + 1))
 else some (Ex.brk (s5)))

def m_spec_l1Have (N : Nat) (list_ : List Str) (names : List Str) : Option (Bool) := (m_spec_l1Have_L4 N list_ names N 0).bind fun e4 => e4.go (fun r => r) fun b4 => some true

set_option maxHeartbeats 4000000 in
theorem c_spec_l1Have (N : Nat) (list_ : List Str) (names : List Str) (res : Bool) (h : m_spec_l1Have N list_ names = some res) (w : World) {a_list_ a_names : Option Addr} {c_list_ c_names : Nat} (h_list_ : strsL.rd w [] [.slice a_list_ list_.length c_list_] list_) (h_names : strsL.rd w [] [.slice a_names names.length c_names] names) : Ret Try.prog 116 [.slice a_list_ list_.length c_list_, .slice a_names names.length c_names] w [] fun v w' => v = .bool res := by
  have mh_list_ := rd_max h_list_
  have mh_names := rd_max h_names
  unfold m_spec_l1Have at h
  refine ret_enter Try.func116 rfl Try.ntmps116 rfl (Hp.refl w _) ?_
  refine cw_seq ?_
  refine cw_region ?_
  refine wl_u rfl (ow_y (yh_assign rfl rfl) rfl rfl (kk_wl ?_))
  refine wl_nil ?_
  refine ex_seq ?_
  refine cw_seq ?_
  refine cw_seq ?_
  refine cw_region ?_
  refine wl_u rfl (ow_y (yh_assign rfl rfl) rfl rfl (kk_wl ?_))
  refine wl_nil ?_
  refine ex_seq ?_
  refine cw_block ?_
  obtain ⟨e4, he4, hk4⟩ := bd h
  clear h
  refine cw_loopG (σ := Nat × Nat) (fun s => m_spec_l1Have_L4 N list_ names s.1 s.2 = some e4) (fun s => [(0, .slice a_list_ list_.length c_list_), (1, .slice a_names names.length c_names), (5, .int .i64 ((s.2 : Nat) : Int))]) (fun s => []) (fun s => s.1) (N, 0) [] he4 ⟨rfl, rfl, rfl, trivial⟩ rfl (fun KL s he4 hn4 => ?_)
  obtain ⟨n4, s5⟩ := s
  simp only at he4 hn4 ⊢
  rcases n4 with _ | n4
  · exact nosome he4
  have h := he4; rw [m_spec_l1Have_L4] at h
  refine cw_seq ?_
  refine cw_seq ?_
  refine cw_region ?_
  refine wl_u rfl (ow_y (yh_move rfl rfl) rfl rfl (kk_wl ?_))
  refine wl_u rfl (ow_y (yh_move rfl rfl) rfl rfl (kk_wl ?_))
  refine wl_u rfl (ow_y (yh_lenS Tb rfl rfl rfl rfl) rfl rfl (kk_wl ?_))
  refine wl_u rfl (ow_y (yh_cmpI rfl rfl rfl rfl) rfl rfl (kk_wl ?_))
  refine wl_nil ?_
  refine ex_seq ?_
  refine cw_split rfl (fun cc1 => ?_) (fun cc1 => ?_)
  · skip
    replace h := bt cc1 h
    have q1 := ltb_true.1 cc1
    refine cw_skip ?_
    refine ex_seq ?_
    refine cw_seq ?_
    refine cw_block ?_
    refine cw_seq ?_
    refine cw_region ?_
    refine wl_u rfl (ow_y (yh_move rfl rfl) rfl rfl (kk_wl ?_))
    refine wl_u rfl (ow_y (yh_move rfl rfl) rfl rfl (kk_wl ?_))
    refine wl_u rfl (ow_y (yh_move rfl rfl) rfl rfl (kk_wl ?_))
    obtain ⟨y15, hy15, h⟩ := bd h
    obtain ⟨b15, o15, ha15⟩ := sl_addr h_names hy15
    subst ha15
    have hc15 := get_str h_names hy15
    refine wl_u rfl (ow_y (yh_idx Tb (k := s5) rfl rfl rfl rfl (get_lt hy15) rfl rfl) rfl rfl (kk_wl ?_))
    refine wl_u rfl (ow_y (yh_loadA0 Tb rfl rfl rfl hc15 rfl) rfl rfl (kk_wl ?_))
    obtain ⟨x17, hx17, h⟩ := bd h
    refine wl_u rfl (ow_cV rfl hb78 rfl (fun w hw => c_spec_l1At N _ _ _ hx17 w (Lay.at_ h_list_ hw)) rfl rfl (kk_wl ?_))
    refine wl_u rfl (ow_y (yh_cmpI rfl rfl rfl rfl) rfl rfl (kk_wl ?_))
    refine wl_nil ?_
    refine ex_seq ?_
    refine cw_split rfl (fun cc2 => ?_) (fun cc2 => ?_)
    · skip
      replace h := bt cc2 h
      have q2 := ltb_true.1 cc2
      refine cw_seq ?_
      refine cw_region ?_
      refine wl_u rfl (ow_y (yh_assign rfl rfl) rfl rfl (kk_wl ?_))
      refine wl_nil ?_
      refine ex_seq ?_
      refine cw_ret ?_
      refine ex_block_ret ?_
      refine ex_then_ret ?_
      refine ex_then_ret ?_
      refine ex_block_ret ?_
      refine ex_then_ret ?_
      obtain rfl := Option.some.inj h
      obtain rfl := go_ret hk4
      exact ex_r1 Tb rfl (.tmp rfl) (fun wq hq => ⟨_, rfl, hq.ext, rfl⟩)
    · skip
      replace h := bf cc2 h
      have q3 := ltb_false.1 cc2
      refine cw_skip ?_
      refine ex_block_normal ?_
      refine ex_seq ?_
      refine cw_region ?_
      refine wl_u rfl (ow_y (yh_move rfl rfl) rfl rfl (kk_wl ?_))
      refine wl_u rfl (ow_y (yh_arI rfl rfl rfl rfl (by omega)) rfl rfl (kk_wl ?_))
      refine wl_u rfl (ow_y (yh_assign rfl rfl) rfl rfl (kk_wl ?_))
      refine wl_nil ?_
      exact ex_next [] (hn4 (n4, s5 + 1) (Nat.lt_succ_self _) h) ⟨rfl, rfl, rfl, trivial⟩ (by kernel_rfl)
  · skip
    replace h := bf cc1 h
    have q4 := ltb_false.1 cc1
    refine cw_exit ?_
    refine ex_then_exit ?_
    refine ex_then_exit ?_
    obtain rfl := Option.some.inj h
    have h := go_brk hk4
    refine ex_block_exit ?_
    refine ex_seq ?_
    refine cw_seq ?_
    refine cw_region ?_
    refine wl_u rfl (ow_y (yh_assign rfl rfl) rfl rfl (kk_wl ?_))
    refine wl_nil ?_
    refine ex_seq ?_
    refine cw_ret ?_
    obtain rfl := Option.some.inj h
    exact ex_r1 Tb rfl (.tmp rfl) (fun wq hq => ⟨_, rfl, hq.ext, rfl⟩)

def m_spec_l2Next_L4 (N : Nat) (steps : List Step) (done : List Str) : Nat → Nat → Option (Ex (Nat) (Str))
  | 0, _ => none
  | n + 1, s5 => (bif ltb ((s5 : Nat) : Int) ((steps.length : Nat) : Int) then (steps[s5]?).bind fun y15 => (m_spec_l1At N done y15.name).bind fun x18 => (bif ltb x18 0 then (m_spec_l1Have N done y15.after).bind fun x27 => (bif x27 then some (Ex.ret y15.name)
 else m_spec_l2Next_L4 N steps done n (s5 + 1))
 else m_spec_l2Next_L4 N steps done n (s5 + 1))
 else some (Ex.brk (s5)))

def m_spec_l2Next (N : Nat) (steps : List Step) (done : List Str) : Option (Str) := (m_spec_l2Next_L4 N steps done N 0).bind fun e4 => e4.go (fun r => r) fun b4 => some (⟨#[]⟩ : Str)

set_option maxHeartbeats 4000000 in
theorem c_spec_l2Next (N : Nat) (steps : List Step) (done : List Str) (res : Str) (h : m_spec_l2Next N steps done = some res) (w : World) {a_done a_steps : Option Addr} {c_done c_steps : Nat} (h_steps : stepsL.rd w [] [.slice a_steps steps.length c_steps] steps) (h_done : strsL.rd w [] [.slice a_done done.length c_done] done) : Ret Try.prog 100 [.slice a_steps steps.length c_steps, .slice a_done done.length c_done] w [] fun v w' => v = .string res := by
  have mh_steps := rd_max h_steps
  have mh_done := rd_max h_done
  unfold m_spec_l2Next at h
  refine ret_enter Try.func100 rfl Try.ntmps100 rfl (Hp.refl w _) ?_
  refine cw_seq ?_
  refine cw_region ?_
  refine wl_u rfl (ow_y (yh_assign rfl rfl) rfl rfl (kk_wl ?_))
  refine wl_nil ?_
  refine ex_seq ?_
  refine cw_seq ?_
  refine cw_seq ?_
  refine cw_region ?_
  refine wl_u rfl (ow_y (yh_assign rfl rfl) rfl rfl (kk_wl ?_))
  refine wl_nil ?_
  refine ex_seq ?_
  refine cw_block ?_
  obtain ⟨e4, he4, hk4⟩ := bd h
  clear h
  refine cw_loopG (σ := Nat × Nat) (fun s => m_spec_l2Next_L4 N steps done s.1 s.2 = some e4) (fun s => [(0, .slice a_steps steps.length c_steps), (1, .slice a_done done.length c_done), (5, .int .i64 ((s.2 : Nat) : Int))]) (fun s => []) (fun s => s.1) (N, 0) [] he4 ⟨rfl, rfl, rfl, trivial⟩ rfl (fun KL s he4 hn4 => ?_)
  obtain ⟨n4, s5⟩ := s
  simp only at he4 hn4 ⊢
  rcases n4 with _ | n4
  · exact nosome he4
  have h := he4; rw [m_spec_l2Next_L4] at h
  refine cw_seq ?_
  refine cw_seq ?_
  refine cw_region ?_
  refine wl_u rfl (ow_y (yh_move rfl rfl) rfl rfl (kk_wl ?_))
  refine wl_u rfl (ow_y (yh_move rfl rfl) rfl rfl (kk_wl ?_))
  refine wl_u rfl (ow_y (yh_lenS Tb rfl rfl rfl rfl) rfl rfl (kk_wl ?_))
  refine wl_u rfl (ow_y (yh_cmpI rfl rfl rfl rfl) rfl rfl (kk_wl ?_))
  refine wl_nil ?_
  refine ex_seq ?_
  refine cw_split rfl (fun cc1 => ?_) (fun cc1 => ?_)
  · skip
    replace h := bt cc1 h
    have q1 := ltb_true.1 cc1
    refine cw_skip ?_
    refine ex_seq ?_
    refine cw_seq ?_
    refine cw_block ?_
    refine cw_seq ?_
    refine cw_region ?_
    refine wl_u rfl (ow_y (yh_move rfl rfl) rfl rfl (kk_wl ?_))
    refine wl_u rfl (ow_y (yh_move rfl rfl) rfl rfl (kk_wl ?_))
    refine wl_u rfl (ow_y (yh_move rfl rfl) rfl rfl (kk_wl ?_))
    obtain ⟨y15, hy15, h⟩ := bd h
    obtain ⟨b15, o15, ha15⟩ := sl_addr h_steps hy15
    subst ha15
    obtain ⟨a15, e15, hc15, hf15⟩ := get_step h_steps hy15
    have mx15 := rd_max hf15
    refine wl_u rfl (ow_y (yh_idx Tb (k := s5) rfl rfl rfl rfl (get_lt hy15) rfl rfl) rfl rfl (kk_wl ?_))
    refine wl_u rfl (ow_y (yh_field Tb rfl rfl rfl) rfl rfl (kk_wl ?_))
    refine wl_u rfl (ow_y (yh_loadAF Tb (j := 0) rfl rfl rfl hc15 rfl) rfl rfl (kk_wl ?_))
    obtain ⟨x18, hx18, h⟩ := bd h
    refine wl_u rfl (ow_cV rfl hb78 rfl (fun w hw => c_spec_l1At N _ _ _ hx18 w (Lay.at_ h_done hw)) rfl rfl (kk_wl ?_))
    refine wl_u rfl (ow_y (yh_cmpI rfl rfl rfl rfl) rfl rfl (kk_wl ?_))
    refine wl_u rfl (ow_y (yh_move rfl rfl) rfl rfl (kk_wl ?_))
    refine wl_s rfl rfl (fun cc2 => ?_) (fun cc2 => ?_)
    · skip
      replace h := bt cc2 h
      have q2 := ltb_true.1 cc2
      refine wl_g rfl rfl (ow_y (yh_move rfl rfl) rfl rfl (kk_wl ?_))
      refine wl_g rfl rfl (ow_y (yh_move rfl rfl) rfl rfl (kk_wl ?_))
      refine wl_g rfl rfl (ow_y (yh_move rfl rfl) rfl rfl (kk_wl ?_))
      refine wl_g rfl rfl (ow_y (yh_idx Tb (k := s5) rfl rfl rfl rfl (get_lt hy15) rfl rfl) rfl rfl (kk_wl ?_))
      refine wl_g rfl rfl (ow_y (yh_field Tb rfl rfl rfl) rfl rfl (kk_wl ?_))
      refine wl_g rfl rfl (ow_y (yh_loadAF Tb (j := 1) rfl rfl rfl hc15 rfl) rfl rfl (kk_wl ?_))
      obtain ⟨x27, hx27, h⟩ := bd h
      refine wl_g rfl rfl (ow_cV rfl hb116 rfl (fun w hw => c_spec_l1Have N _ _ _ hx27 w (Lay.at_ h_done hw) (Lay.at_ hf15 hw)) rfl rfl (kk_wl ?_))
      refine wl_u rfl (ow_y (yh_pickT rfl rfl rfl) rfl rfl (kk_wl ?_))
      refine wl_nil ?_
      refine ex_seq ?_
      refine cw_split rfl (fun cc3 => ?_) (fun cc3 => ?_)
      · skip
        replace h := bt cc3 h
        refine cw_seq ?_
        refine cw_region ?_
        refine wl_u rfl (ow_y (yh_move rfl rfl) rfl rfl (kk_wl ?_))
        refine wl_u rfl (ow_y (yh_move rfl rfl) rfl rfl (kk_wl ?_))
        refine wl_u rfl (ow_y (yh_idx Tb (k := s5) rfl rfl rfl rfl (get_lt hy15) rfl rfl) rfl rfl (kk_wl ?_))
        refine wl_u rfl (ow_y (yh_field Tb rfl rfl rfl) rfl rfl (kk_wl ?_))
        refine wl_u rfl (ow_y (yh_loadAF Tb (j := 0) rfl rfl rfl hc15 rfl) rfl rfl (kk_wl ?_))
        refine wl_u rfl (ow_y (yh_assign rfl rfl) rfl rfl (kk_wl ?_))
        refine wl_nil ?_
        refine ex_seq ?_
        refine cw_ret ?_
        refine ex_block_ret ?_
        refine ex_then_ret ?_
        refine ex_then_ret ?_
        refine ex_block_ret ?_
        refine ex_then_ret ?_
        obtain rfl := Option.some.inj h
        obtain rfl := go_ret hk4
        exact ex_r1 Tb rfl (.tmp rfl) (fun wq hq => ⟨_, rfl, hq.ext, rfl⟩)
      · skip
        replace h := bf cc3 h
        refine cw_skip ?_
        refine ex_block_normal ?_
        refine ex_seq ?_
        refine cw_region ?_
        refine wl_u rfl (ow_y (yh_move rfl rfl) rfl rfl (kk_wl ?_))
        refine wl_u rfl (ow_y (yh_arI rfl rfl rfl rfl (by omega)) rfl rfl (kk_wl ?_))
        refine wl_u rfl (ow_y (yh_assign rfl rfl) rfl rfl (kk_wl ?_))
        refine wl_nil ?_
        exact ex_next [] (hn4 (n4, s5 + 1) (Nat.lt_succ_self _) h) ⟨rfl, rfl, rfl, trivial⟩ (by kernel_rfl)
    · skip
      replace h := bf cc2 h
      have q3 := ltb_false.1 cc2
      refine wl_n rfl rfl rfl rfl ?_
      refine wl_n rfl rfl rfl rfl ?_
      refine wl_n rfl rfl rfl rfl ?_
      refine wl_n rfl rfl rfl rfl ?_
      refine wl_n rfl rfl rfl rfl ?_
      refine wl_n rfl rfl rfl rfl ?_
      refine wl_n rfl rfl rfl rfl ?_
      refine wl_u rfl (ow_y (yh_pickF rfl rfl rfl) rfl rfl (kk_wl ?_))
      refine wl_nil ?_
      refine ex_seq ?_
      refine cw_false rfl ?_
      refine cw_skip ?_
      refine ex_block_normal ?_
      refine ex_seq ?_
      refine cw_region ?_
      refine wl_u rfl (ow_y (yh_move rfl rfl) rfl rfl (kk_wl ?_))
      refine wl_u rfl (ow_y (yh_arI rfl rfl rfl rfl (by omega)) rfl rfl (kk_wl ?_))
      refine wl_u rfl (ow_y (yh_assign rfl rfl) rfl rfl (kk_wl ?_))
      refine wl_nil ?_
      exact ex_next [] (hn4 (n4, s5 + 1) (Nat.lt_succ_self _) h) ⟨rfl, rfl, rfl, trivial⟩ (by kernel_rfl)
  · skip
    replace h := bf cc1 h
    have q4 := ltb_false.1 cc1
    refine cw_exit ?_
    refine ex_then_exit ?_
    refine ex_then_exit ?_
    obtain rfl := Option.some.inj h
    have h := go_brk hk4
    refine ex_block_exit ?_
    refine ex_seq ?_
    refine cw_seq ?_
    refine cw_region ?_
    refine wl_u rfl (ow_y (yh_assign rfl rfl) rfl rfl (kk_wl ?_))
    refine wl_nil ?_
    refine ex_seq ?_
    refine cw_ret ?_
    obtain rfl := Option.some.inj h
    exact ex_r1 Tb rfl (.tmp rfl) (fun wq hq => ⟨_, rfl, hq.ext, rfl⟩)

def m_spec_l2Order_L5 (N : Nat) (steps : List Step) : Nat → (List Str) → Nat → Option (Ex (List Str × Nat) (List Str))
  | 0, _, _ => none
  | n + 1, s3, s4 => (bif ltb ((s4 : Nat) : Int) ((steps.length : Nat) : Int) then (m_spec_l2Next N steps s3).bind fun x15 => (bif !(seq x15 (⟨#[]⟩ : Str)) then (appd s3 ([x15] : List Str)).bind fun l21 => m_spec_l2Order_L5 N steps n (s3 ++ ([x15] : List Str)) (s4 + 1)
 else m_spec_l2Order_L5 N steps n s3 (s4 + 1))
 else some (Ex.brk (s3, s4)))

def m_spec_l2Order (N : Nat) (steps : List Step) : Option (List Str) := (m_spec_l2Order_L5 N steps N ([] : List Str) 0).bind fun e5 => e5.go (fun r => r) fun b5 => some b5.1

set_option maxHeartbeats 4000000 in
theorem c_spec_l2Order (N : Nat) (steps : List Step) (res : List Str) (h : m_spec_l2Order N steps = some res) (w : World) {a_steps : Option Addr} {c_steps : Nat} (h_steps : stepsL.rd w [] [.slice a_steps steps.length c_steps] steps) : Ret Try.prog 76 [.slice a_steps steps.length c_steps] w [] fun v w' => ∃ a1 c1 F1, v = .slice a1 res.length c1 ∧ NewC w w' [owC strsL F1 [.slice a1 res.length c1] res] := by
  have mh_steps := rd_max h_steps
  unfold m_spec_l2Order at h
  refine ret_enter Try.func76 rfl Try.ntmps76 rfl (Hp.refl w _) ?_
  refine cw_seq ?_
  refine cw_region ?_
  refine wl_u rfl (ow_y (yh_assign rfl rfl) rfl rfl (kk_wl ?_))
  refine wl_nil ?_
  refine ex_seq ?_
  refine cw_seq ?_
  refine cw_region ?_
  refine wl_u rfl (ow_lit0 Tb rfl rfl rfl rfl rfl rfl (fun g6 => kk_chg (c' := owC strsL [g6] [.slice (some ⟨g6, 0, none⟩) 0 0] ([] : List Str)) 0 rfl (fun w hA => own_strsL ([] : List Str) hA rfl (by simp [maxLen])) rfl (kk_wl ?_)))
  refine wl_u rfl (ow_y (yh_assign rfl rfl) rfl rfl (kk_wl ?_))
  refine wl_nil ?_
  refine ex_seq ?_
  refine cw_seq ?_
  refine cw_seq ?_
  refine cw_region ?_
  refine wl_u rfl (ow_y (yh_assign rfl rfl) rfl rfl (kk_wl ?_))
  refine wl_nil ?_
  refine ex_seq ?_
  refine cw_block ?_
  obtain ⟨e5, he5, hk5⟩ := bd h
  clear h
  refine cw_loopG (σ := Nat × (List Str) × Nat × (Option Addr) × Nat × (List Nat)) (fun s => m_spec_l2Order_L5 N steps s.1 s.2.1 s.2.2.1 = some e5) (fun s => [(0, .slice a_steps steps.length c_steps), (3, .slice s.2.2.2.1 s.2.1.length s.2.2.2.2.1), (4, .int .i64 ((s.2.2.1 : Nat) : Int))]) (fun s => [owC strsL s.2.2.2.2.2 [.slice s.2.2.2.1 s.2.1.length s.2.2.2.2.1] s.2.1]) (fun s => s.1) (N, ([] : List Str), 0, (some ⟨g6, 0, none⟩), 0, [g6]) [0] he5 ⟨rfl, rfl, rfl, trivial⟩ rfl (fun KL s he5 hn5 => ?_)
  obtain ⟨n5, s3, s4, as3, cs3, Fs3⟩ := s
  simp only at he5 hn5 ⊢
  rcases n5 with _ | n5
  · exact nosome he5
  have h := he5; rw [m_spec_l2Order_L5] at h
  refine cw_seq ?_
  refine cw_seq ?_
  refine cw_region ?_
  refine wl_u rfl (ow_y (yh_move rfl rfl) rfl rfl (kk_wl ?_))
  refine wl_u rfl (ow_y (yh_move rfl rfl) rfl rfl (kk_wl ?_))
  refine wl_u rfl (ow_y (yh_lenS Tb rfl rfl rfl rfl) rfl rfl (kk_wl ?_))
  refine wl_u rfl (ow_y (yh_cmpI rfl rfl rfl rfl) rfl rfl (kk_wl ?_))
  refine wl_nil ?_
  refine ex_seq ?_
  refine cw_split rfl (fun cc1 => ?_) (fun cc1 => ?_)
  · skip
    replace h := bt cc1 h
    have q1 := ltb_true.1 cc1
    refine cw_skip ?_
    refine ex_seq ?_
    refine cw_seq ?_
    refine cw_block ?_
    refine cw_seq ?_
    refine cw_region ?_
    refine wl_u rfl (ow_y (yh_move rfl rfl) rfl rfl (kk_wl ?_))
    refine wl_u rfl (ow_y (yh_move rfl rfl) rfl rfl (kk_wl ?_))
    obtain ⟨x15, hx15, h⟩ := bd h
    refine wl_u rfl (ow_cV rfl hb100 rfl (fun w hw => c_spec_l2Next N _ _ _ hx15 w (Lay.at_ h_steps hw) (rdo (A := strsL) 0 rfl hw)) rfl rfl (kk_wl ?_))
    refine wl_u rfl (ow_y (yh_assign rfl rfl) rfl rfl (kk_wl ?_))
    refine wl_nil ?_
    refine ex_seq ?_
    refine cw_seq ?_
    refine cw_region ?_
    refine wl_u rfl (ow_y (yh_move rfl rfl) rfl rfl (kk_wl ?_))
    refine wl_u rfl (ow_y (yh_cmpS rfl rfl rfl rfl) rfl rfl (kk_wl ?_))
    refine wl_nil ?_
    refine ex_seq ?_
    refine cw_split rfl (fun cc2 => ?_) (fun cc2 => ?_)
    · skip
      replace h := bt cc2 h
      refine cw_region ?_
      refine wl_u rfl (ow_y (yh_move rfl rfl) rfl rfl (kk_wl ?_))
      refine wl_u rfl (ow_y (yh_move rfl rfl) rfl rfl (kk_wl ?_))
      refine wl_u rfl (ow_lit1 Tb rfl rfl rfl rfl rfl rfl rfl rfl rfl rfl (fun g20 => kk_chg (c' := owC strsL [g20] [.slice (some ⟨g20, 0, none⟩) 1 1] ([x15] : List Str)) 0 rfl (fun w hA => own_strsL ([x15] : List Str) hA rfl (by simp [maxLen])) rfl (kk_wl ?_)))
      obtain ⟨hll21, h⟩ := bd_appd h
      refine wl_u rfl (ow_appP Tb (i := 1) rfl rfl rfl rfl rfl (fun w hw => rdo (A := strsL) 0 rfl hw) rfl rfl rfl rfl hll21 (by decide) rfl rfl (fun a21 c21 F21 => kk_wl ?_))
      refine wl_u rfl (ow_y (yh_assign rfl rfl) rfl rfl (kk_wl ?_))
      refine wl_nil ?_
      refine ex_block_normal ?_
      refine ex_seq ?_
      refine cw_region ?_
      refine wl_u rfl (ow_y (yh_move rfl rfl) rfl rfl (kk_wl ?_))
      refine wl_u rfl (ow_y (yh_arI rfl rfl rfl rfl (by omega)) rfl rfl (kk_wl ?_))
      refine wl_u rfl (ow_y (yh_assign rfl rfl) rfl rfl (kk_wl ?_))
      refine wl_nil ?_
      exact ex_next [0] (hn5 (n5, (s3 ++ ([x15] : List Str)), s4 + 1, a21, c21, F21) (Nat.lt_succ_self _) h) ⟨rfl, rfl, rfl, trivial⟩ (by kernel_rfl)
    · skip
      replace h := bf cc2 h
      refine cw_skip ?_
      refine ex_block_normal ?_
      refine ex_seq ?_
      refine cw_region ?_
      refine wl_u rfl (ow_y (yh_move rfl rfl) rfl rfl (kk_wl ?_))
      refine wl_u rfl (ow_y (yh_arI rfl rfl rfl rfl (by omega)) rfl rfl (kk_wl ?_))
      refine wl_u rfl (ow_y (yh_assign rfl rfl) rfl rfl (kk_wl ?_))
      refine wl_nil ?_
      exact ex_next [0] (hn5 (n5, s3, s4 + 1, as3, cs3, Fs3) (Nat.lt_succ_self _) h) ⟨rfl, rfl, rfl, trivial⟩ (by kernel_rfl)
  · skip
    replace h := bf cc1 h
    have q2 := ltb_false.1 cc1
    refine cw_exit ?_
    refine ex_then_exit ?_
    refine ex_then_exit ?_
    obtain rfl := Option.some.inj h
    have h := go_brk hk5
    refine ex_block_exit ?_
    refine ex_seq ?_
    refine cw_seq ?_
    refine cw_region ?_
    refine wl_u rfl (ow_y (yh_move rfl rfl) rfl rfl (kk_wl ?_))
    refine wl_u rfl (ow_y (yh_assign rfl rfl) rfl rfl (kk_wl ?_))
    refine wl_nil ?_
    refine ex_seq ?_
    refine cw_ret ?_
    obtain rfl := Option.some.inj h
    exact ex_r1 Tb rfl (.tmp rfl) (fun wq hq => ⟨_, rfl, hq.ext, ⟨as3, cs3, Fs3, rfl, NewC.sel [0] hq rfl⟩⟩)

def m_spec_FlowValid_L21 (N : Nat) (u0 : Flow) (y16 : Step) : Nat → Nat → Option (Ex (Nat) (Bool))
  | 0, _ => none
  | n + 1, s5 => (bif ltb ((s5 : Nat) : Int) ((y16.after.length : Nat) : Int) then (y16.after[s5]?).bind fun y49 => (m_spec_l2At N u0.steps y49).bind fun x51 => (bif ltb x51 0 then some (Ex.ret false)
 else m_spec_FlowValid_L21 N u0 y16 n (s5 + 1))
 else some (Ex.brk (s5)))

def m_spec_FlowValid_L9 (N : Nat) (u0 : Flow) : Nat → Nat → Option (Ex (Nat) (Bool))
  | 0, _ => none
  | n + 1, s3 => (bif ltb ((s3 : Nat) : Int) ((u0.steps.length : Nat) : Int) then (u0.steps[s3]?).bind fun y16 => ((m_spec_StepValid N y16).bind fun x19 => (bif !x19 then some (Ex.ret false)
 else (bif ltb 0 ((s3 : Nat) : Int) then (geti u0.steps (((s3 : Nat) : Int) - 1)).bind fun y29 => (bif !(slt y29.name y16.name) then some (Ex.ret false)
 else some (Ex.brk ()))
 else some (Ex.brk ()))) : Option (Ex (Unit) (Bool))).bind fun e114 => e114.go Ex.ret fun j114 => (m_spec_FlowValid_L21 N u0 y16 N 0).bind fun e21 => e21.go Ex.ret fun b21 => m_spec_FlowValid_L9 N u0 n (s3 + 1)
 else some (Ex.brk (s3)))

def m_spec_FlowValid (N : Nat) (u0 : Flow) : Option (Bool) := (m_spec_FlowValid_L9 N u0 N 0).bind fun e9 => e9.go (fun r => r) fun b9 => (m_spec_l6In N u0.ver 1 99).bind fun x55 => (bif x55 then (m_spec_l6In N ((u0.steps.length : Nat) : Int) 1 8).bind fun x60 => (bif x60 then (m_spec_l2Order N u0.steps).bind fun x65 => some (eqb ((x65.length : Nat) : Int) ((u0.steps.length : Nat) : Int))
 else some false)
 else some false)

set_option maxHeartbeats 4000000 in
theorem c_spec_FlowValid (N : Nat) (u0 : Flow) (res : Bool) (h : m_spec_FlowValid N u0 = some res) (w : World) {a_u0_steps : Option Addr} {c_u0_steps : Nat} (h_u0_steps : stepsL.rd w [] [.slice a_u0_steps u0.steps.length c_u0_steps] u0.steps) : Ret Try.prog 38 [.agg #[.int .i64 u0.ver, .slice a_u0_steps u0.steps.length c_u0_steps]] w [] fun v w' => v = .bool res := by
  have mh_u0_steps := rd_max h_u0_steps
  unfold m_spec_FlowValid at h
  refine ret_enter Try.func38 rfl Try.ntmps38 rfl (Hp.refl w _) ?_
  refine cw_seq ?_
  refine cw_region ?_
  refine wl_u rfl (ow_boxA rfl rfl rfl rfl (fun g1 => kk_wl ?_))
  refine wl_u rfl (ow_y (yh_assign rfl rfl) rfl rfl (kk_wl ?_))
  refine wl_nil ?_
  refine ex_seq ?_
  refine cw_seq ?_
  refine cw_seq ?_
  refine cw_region ?_
  refine wl_u rfl (ow_y (yh_assign rfl rfl) rfl rfl (kk_wl ?_))
  refine wl_nil ?_
  refine ex_seq ?_
  refine cw_block ?_
  obtain ⟨e9, he9, hk9⟩ := bd h
  clear h
  refine cw_loopG (σ := Nat × Nat) (fun s => m_spec_FlowValid_L9 N u0 s.1 s.2 = some e9) (fun s => [(1, .pointer (some ⟨g1, 0, none⟩)), (3, .int .i64 ((s.2 : Nat) : Int))]) (fun s => [blkC g1 25 [.int .i64 u0.ver, .slice a_u0_steps u0.steps.length c_u0_steps]]) (fun s => s.1) (N, 0) [0] he9 ⟨rfl, rfl, trivial⟩ rfl (fun KL s he9 hn9 => ?_)
  obtain ⟨n9, s3⟩ := s
  simp only at he9 hn9 ⊢
  rcases n9 with _ | n9
  · exact nosome he9
  have h := he9; rw [m_spec_FlowValid_L9] at h
  refine cw_seq ?_
  refine cw_seq ?_
  refine cw_region ?_
  refine wl_u rfl (ow_y (yh_move rfl rfl) rfl rfl (kk_wl ?_))
  refine wl_u rfl (ow_y (yh_field Tb rfl rfl rfl) rfl rfl (kk_wl ?_))
  refine wl_u rfl (ow_y (yh_loadB Tb (k := 0) rfl rfl rfl rfl rfl) rfl rfl (kk_wl ?_))
  refine wl_u rfl (ow_y (yh_lenS Tb rfl rfl rfl rfl) rfl rfl (kk_wl ?_))
  refine wl_u rfl (ow_y (yh_cmpI rfl rfl rfl rfl) rfl rfl (kk_wl ?_))
  refine wl_nil ?_
  refine ex_seq ?_
  refine cw_split rfl (fun cc1 => ?_) (fun cc1 => ?_)
  · skip
    replace h := bt cc1 h
    have q1 := ltb_true.1 cc1
    refine cw_skip ?_
    refine ex_seq ?_
    refine cw_seq ?_
    refine cw_block ?_
    refine cw_seq ?_
    refine cw_region ?_
    refine wl_u rfl (ow_y (yh_field Tb rfl rfl rfl) rfl rfl (kk_wl ?_))
    refine wl_u rfl (ow_y (yh_loadB Tb (k := 0) rfl rfl rfl rfl rfl) rfl rfl (kk_wl ?_))
    refine wl_u rfl (ow_y (yh_move rfl rfl) rfl rfl (kk_wl ?_))
    obtain ⟨y16, hy16, h⟩ := bd h
    obtain ⟨b16, o16, ha16⟩ := sl_addr h_u0_steps hy16
    subst ha16
    obtain ⟨a16, e16, hc16, hf16⟩ := get_step h_u0_steps hy16
    have mx16 := rd_max hf16
    refine wl_u rfl (ow_y (yh_idx Tb (k := s3) rfl rfl rfl rfl (get_lt hy16) rfl rfl) rfl rfl (kk_wl ?_))
    refine wl_u rfl (ow_y (yh_loadAN Tb rfl rfl rfl rfl hc16 rfl) rfl rfl (kk_wl ?_))
    refine wl_u rfl (ow_allocA Tb rfl rfl rfl rfl (fun g4 => kk_wl ?_))
    refine wl_u rfl (ow_storeA Tb (k := 0) rfl rfl rfl rfl rfl rfl rfl rfl rfl (kk_wl ?_))
    refine wl_nil ?_
    refine ex_seq ?_
    obtain ⟨e114, he114, hk114⟩ := bd h
    clear h
    refine cw_cut (σ := Unit × Unit) (fun s => e114 = Ex.brk s.1) (fun s => [(1, .pointer (some ⟨g1, 0, none⟩)), (3, .int .i64 ((s3 : Nat) : Int)), (4, .pointer (some ⟨g4, 0, none⟩))]) (fun s => [blkC g1 25 [.int .i64 u0.ver, .slice (some ⟨b16, o16, none⟩) u0.steps.length c_u0_steps], blkC g4 28 [.string y16.name, .slice a16 y16.after.length e16, .bool y16.undo]]) (fun s hI => ?_) (fun KL hn114 => ?_)
    · skip
      obtain ⟨j114, _⟩ := s
      simp only at hI ⊢
      subst hI
      have h := go_brk hk114
      refine cw_seq ?_
      refine cw_region ?_
      refine wl_u rfl (ow_y (yh_assign rfl rfl) rfl rfl (kk_wl ?_))
      refine wl_nil ?_
      refine ex_seq ?_
      refine cw_block ?_
      obtain ⟨e21, he21, hk21⟩ := bd h
      clear h
      refine cw_loopG (σ := Nat × Nat) (fun s => m_spec_FlowValid_L21 N u0 y16 s.1 s.2 = some e21) (fun s => [(1, .pointer (some ⟨g1, 0, none⟩)), (3, .int .i64 ((s3 : Nat) : Int)), (4, .pointer (some ⟨g4, 0, none⟩)), (5, .int .i64 ((s.2 : Nat) : Int))]) (fun s => [blkC g1 25 [.int .i64 u0.ver, .slice (some ⟨b16, o16, none⟩) u0.steps.length c_u0_steps], blkC g4 28 [.string y16.name, .slice a16 y16.after.length e16, .bool y16.undo]]) (fun s => s.1) (N, 0) [0, 1] he21 ⟨rfl, rfl, rfl, rfl, trivial⟩ rfl (fun KL s he21 hn21 => ?_)
      obtain ⟨n21, s5⟩ := s
      simp only at he21 hn21 ⊢
      rcases n21 with _ | n21
      · exact nosome he21
      have h := he21; rw [m_spec_FlowValid_L21] at h
      refine cw_seq ?_
      refine cw_seq ?_
      refine cw_region ?_
      refine wl_u rfl (ow_y (yh_move rfl rfl) rfl rfl (kk_wl ?_))
      refine wl_u rfl (ow_y (yh_field Tb rfl rfl rfl) rfl rfl (kk_wl ?_))
      refine wl_u rfl (ow_y (yh_loadB Tb (k := 1) rfl rfl rfl rfl rfl) rfl rfl (kk_wl ?_))
      refine wl_u rfl (ow_y (yh_lenS Tb rfl rfl rfl rfl) rfl rfl (kk_wl ?_))
      refine wl_u rfl (ow_y (yh_cmpI rfl rfl rfl rfl) rfl rfl (kk_wl ?_))
      refine wl_nil ?_
      refine ex_seq ?_
      refine cw_split rfl (fun cc2 => ?_) (fun cc2 => ?_)
      · skip
        replace h := bt cc2 h
        have q2 := ltb_true.1 cc2
        refine cw_skip ?_
        refine ex_seq ?_
        refine cw_seq ?_
        refine cw_block ?_
        refine cw_seq ?_
        refine cw_dr [0, 1, 2, 3, 4, 5, 6, 8] [] [blkC g1 25 [.int .i64 u0.ver, .slice (some ⟨b16, o16, none⟩) u0.steps.length c_u0_steps], blkC g4 28 [.string y16.name, .slice a16 y16.after.length e16, .bool y16.undo]] (by kernel_rfl) ?_
        refine wd_take (i := 0) [0, 1] rfl rfl rfl rfl rfl (by kernel_rfl) (by kernel_rfl) (fun _ _ _ _ h => h) (yh_field Tb rfl rfl rfl) ?_
        refine wd_take (i := 1) [0, 1] rfl rfl rfl rfl rfl (by kernel_rfl) (by kernel_rfl) (fun _ _ _ _ h => h) (yh_loadB Tb (k := 0) rfl rfl rfl rfl rfl) ?_
        refine wd_take (i := 2) [0, 1] rfl rfl rfl rfl rfl (by kernel_rfl) (by kernel_rfl) (fun _ _ _ _ h => h) (yh_field Tb rfl rfl rfl) ?_
        refine wd_take (i := 3) [0, 1] rfl rfl rfl rfl rfl (by kernel_rfl) (by kernel_rfl) (fun _ _ _ _ h => h) (yh_loadB Tb (k := 1) rfl rfl rfl rfl rfl) ?_
        refine wd_take (i := 4) [0, 1] rfl rfl rfl rfl rfl (by kernel_rfl) (by kernel_rfl) (fun _ _ _ _ h => h) (yh_move rfl rfl) ?_
        obtain ⟨y49, hy49, h⟩ := bd h
        obtain ⟨b49, o49, ha49⟩ := sl_addr hf16 hy49
        subst ha49
        have hc49 := get_str hf16 hy49
        refine wd_take (i := 5) [0, 1] rfl rfl rfl rfl rfl (by kernel_rfl) (by kernel_rfl) (fun _ _ _ _ h => h) (yh_idx Tb (k := s5) rfl rfl rfl rfl (get_lt hy49) rfl rfl) ?_
        refine wd_take (i := 6) [0, 1] rfl rfl rfl rfl rfl (by kernel_rfl) (by kernel_rfl) (fun _ _ _ _ h => h) (yh_loadA0 Tb rfl rfl rfl hc49 rfl) ?_
        obtain ⟨x51, hx51, h⟩ := bd h
        refine wd_one 7 rfl rfl (by kernel_rfl) (ow_cV rfl hb74 rfl (fun w hw => c_spec_l2At N _ _ _ hx51 w (Lay.at_ h_u0_steps hw)) rfl rfl (kk_wd [0, 1] (by kernel_rfl) ?_))
        refine wd_take (i := 8) [0, 1] rfl rfl rfl rfl rfl (by kernel_rfl) (by kernel_rfl) (fun _ _ _ _ h => h) (yh_cmpI rfl rfl rfl rfl) ?_
        refine wd_done (by kernel_rfl) ?_
        refine ex_seq ?_
        refine cw_split rfl (fun cc3 => ?_) (fun cc3 => ?_)
        · skip
          replace h := bt cc3 h
          have q3 := ltb_true.1 cc3
          refine cw_seq ?_
          refine cw_region ?_
          refine wl_u rfl (ow_y (yh_assign rfl rfl) rfl rfl (kk_wl ?_))
          refine wl_nil ?_
          refine ex_seq ?_
          refine cw_ret ?_
          refine ex_block_ret ?_
          refine ex_then_ret ?_
          refine ex_then_ret ?_
          refine ex_block_ret ?_
          refine ex_block_ret ?_
          refine ex_then_ret ?_
          refine ex_then_ret ?_
          refine ex_block_ret ?_
          refine ex_then_ret ?_
          obtain rfl := Option.some.inj h
          obtain rfl := go_ret hk21
          obtain rfl := go_ret hk9
          exact ex_r1 Tb rfl (.tmp rfl) (fun wq hq => ⟨_, rfl, hq.ext, rfl⟩)
        · skip
          replace h := bf cc3 h
          have q4 := ltb_false.1 cc3
          refine cw_skip ?_
          refine ex_block_normal ?_
          refine ex_seq ?_
          refine cw_region ?_
          refine wl_u rfl (ow_y (yh_move rfl rfl) rfl rfl (kk_wl ?_))
          refine wl_u rfl (ow_y (yh_arI rfl rfl rfl rfl (by omega)) rfl rfl (kk_wl ?_))
          refine wl_u rfl (ow_y (yh_assign rfl rfl) rfl rfl (kk_wl ?_))
          refine wl_nil ?_
          exact ex_next [0, 1] (hn21 (n21, s5 + 1) (Nat.lt_succ_self _) h) ⟨rfl, rfl, rfl, rfl, trivial⟩ (by kernel_rfl)
      · skip
        replace h := bf cc2 h
        have q5 := ltb_false.1 cc2
        refine cw_exit ?_
        refine ex_then_exit ?_
        refine ex_then_exit ?_
        obtain rfl := Option.some.inj h
        have h := go_brk hk21
        refine ex_block_exit ?_
        refine ex_block_normal ?_
        refine ex_seq ?_
        refine cw_region ?_
        refine wl_u rfl (ow_y (yh_move rfl rfl) rfl rfl (kk_wl ?_))
        refine wl_u rfl (ow_y (yh_arI rfl rfl rfl rfl (by omega)) rfl rfl (kk_wl ?_))
        refine wl_u rfl (ow_y (yh_assign rfl rfl) rfl rfl (kk_wl ?_))
        refine wl_nil ?_
        exact ex_next [0] (hn9 (n9, s3 + 1) (Nat.lt_succ_self _) h) ⟨rfl, rfl, trivial⟩ (by kernel_rfl)
    · skip
      have h := he114
      refine cw_seq ?_
      refine cw_dr [0, 2, 3, 4, 5, 6, 7, 8, 9, 10, 11, 12, 13, 14, 15, 16, 17, 18] [] [blkC g4 28 [.string y16.name, .slice a16 y16.after.length e16, .bool y16.undo], blkC g1 25 [.int .i64 u0.ver, .slice (some ⟨b16, o16, none⟩) u0.steps.length c_u0_steps]] (by kernel_rfl) ?_
      refine wd_take (i := 0) [0, 1] rfl rfl rfl rfl rfl (by kernel_rfl) (by kernel_rfl) (fun _ _ _ _ h => h) (yh_loadBA Tb (k := 0) rfl rfl rfl rfl rfl rfl) ?_
      obtain ⟨x19, hx19, h⟩ := bd h
      refine wd_one 1 rfl rfl (by kernel_rfl) (ow_cV rfl hb39 rfl (fun w hw => c_spec_StepValid N _ _ hx19 w (Lay.at_ hf16 hw)) rfl rfl (kk_wd [0, 1] (by kernel_rfl) ?_))
      refine wd_take (i := 2) [0, 1] rfl rfl rfl rfl rfl (by kernel_rfl) (by kernel_rfl) (fun _ _ _ _ h => h) (yh_not rfl rfl) ?_
      refine wd_take (i := 3) [0, 1] rfl rfl rfl rfl rfl (by kernel_rfl) (by kernel_rfl) (fun _ _ _ _ h => h) (yh_move rfl rfl) ?_
      refine wd_split 4 rfl rfl rfl (fun cc4 => ?_) (fun cc4 => ?_)
      · skip
        replace h := bt cc4 h
        refine wd_skip (i := 4) [0, 1] rfl rfl rfl rfl (by kernel_rfl) (by kernel_rfl) (fun _ _ _ h => h) ?_
        refine wd_skip (i := 5) [0, 1] rfl rfl rfl rfl (by kernel_rfl) (by kernel_rfl) (fun _ _ _ h => h) ?_
        refine wd_skip (i := 6) [0, 1] rfl rfl rfl rfl (by kernel_rfl) (by kernel_rfl) (fun _ _ _ h => h) ?_
        refine wd_skip (i := 7) [0, 1] rfl rfl rfl rfl (by kernel_rfl) (by kernel_rfl) (fun _ _ _ h => h) ?_
        refine wd_skip (i := 8) [0, 1] rfl rfl rfl rfl (by kernel_rfl) (by kernel_rfl) (fun _ _ _ h => h) ?_
        refine wd_skip (i := 9) [0, 1] rfl rfl rfl rfl (by kernel_rfl) (by kernel_rfl) (fun _ _ _ h => h) ?_
        refine wd_skip (i := 10) [0, 1] rfl rfl rfl rfl (by kernel_rfl) (by kernel_rfl) (fun _ _ _ h => h) ?_
        refine wd_skip (i := 11) [0, 1] rfl rfl rfl rfl (by kernel_rfl) (by kernel_rfl) (fun _ _ _ h => h) ?_
        refine wd_skip (i := 12) [0, 1] rfl rfl rfl rfl (by kernel_rfl) (by kernel_rfl) (fun _ _ _ h => h) ?_
        refine wd_skip (i := 13) [0, 1] rfl rfl rfl rfl (by kernel_rfl) (by kernel_rfl) (fun _ _ _ h => h) ?_
        refine wd_skip (i := 14) [0, 1] rfl rfl rfl rfl (by kernel_rfl) (by kernel_rfl) (fun _ _ _ h => h) ?_
        refine wd_skip (i := 15) [0, 1] rfl rfl rfl rfl (by kernel_rfl) (by kernel_rfl) (fun _ _ _ h => h) ?_
        refine wd_skip (i := 16) [0, 1] rfl rfl rfl rfl (by kernel_rfl) (by kernel_rfl) (fun _ _ _ h => h) ?_
        refine wd_skip (i := 17) [0, 1] rfl rfl rfl rfl (by kernel_rfl) (by kernel_rfl) (fun _ _ _ h => h) ?_
        refine wd_take (i := 18) [0, 1] rfl rfl rfl rfl rfl (by kernel_rfl) (by kernel_rfl) (fun _ _ _ _ h => h) (yh_pickT rfl rfl rfl) ?_
        refine wd_done (by kernel_rfl) ?_
        refine ex_seq ?_
        refine cw_true rfl ?_
        refine cw_seq ?_
        refine cw_region ?_
        refine wl_u rfl (ow_y (yh_assign rfl rfl) rfl rfl (kk_wl ?_))
        refine wl_nil ?_
        refine ex_seq ?_
        refine cw_ret ?_
        refine ex_then_ret ?_
        refine ex_block_ret ?_
        refine ex_then_ret ?_
        refine ex_then_ret ?_
        refine ex_block_ret ?_
        refine ex_then_ret ?_
        obtain rfl := Option.some.inj h
        obtain rfl := go_ret hk114
        obtain rfl := go_ret hk9
        exact ex_r1 Tb rfl (.tmp rfl) (fun wq hq => ⟨_, rfl, hq.ext, rfl⟩)
      · skip
        replace h := bf cc4 h
        refine wd_take (i := 4) [0, 1] rfl rfl rfl rfl rfl (by kernel_rfl) (by kernel_rfl) (fun _ _ _ _ h => h) (yh_move rfl rfl) ?_
        refine wd_take (i := 5) [0, 1] rfl rfl rfl rfl rfl (by kernel_rfl) (by kernel_rfl) (fun _ _ _ _ h => h) (yh_cmpI rfl rfl rfl rfl) ?_
        refine wd_take (i := 6) [0, 1] rfl rfl rfl rfl rfl (by kernel_rfl) (by kernel_rfl) (fun _ _ _ _ h => h) (yh_move rfl rfl) ?_
        refine wd_split 7 rfl rfl rfl (fun cc5 => ?_) (fun cc5 => ?_)
        · skip
          replace h := bt cc5 h
          have q6 := ltb_true.1 cc5
          refine wd_take (i := 7) [0, 1] rfl rfl rfl rfl rfl (by kernel_rfl) (by kernel_rfl) (fun _ _ _ _ h => h) (yh_field Tb rfl rfl rfl) ?_
          refine wd_take (i := 8) [0, 1] rfl rfl rfl rfl rfl (by kernel_rfl) (by kernel_rfl) (fun _ _ _ _ h => h) (yh_loadB Tb (k := 1) rfl rfl rfl rfl rfl) ?_
          refine wd_take (i := 9) [0, 1] rfl rfl rfl rfl rfl (by kernel_rfl) (by kernel_rfl) (fun _ _ _ _ h => h) (yh_move rfl rfl) ?_
          refine wd_take (i := 10) [0, 1] rfl rfl rfl rfl rfl (by kernel_rfl) (by kernel_rfl) (fun _ _ _ _ h => h) (yh_arI rfl rfl rfl rfl (by omega)) ?_
          obtain ⟨y29, zy29, h⟩ := bd h
          obtain ⟨iy29, hy29⟩ := geti_some zy29
          obtain ⟨a29, e29, hc29, hf29⟩ := get_step h_u0_steps hy29
          have mx29 := rd_max hf29
          refine wd_take (i := 11) [0, 1] rfl rfl rfl rfl rfl (by kernel_rfl) (by kernel_rfl) (fun _ _ _ _ h => h) (yh_idx Tb (k := (((s3 : Nat) : Int) - 1).toNat) rfl rfl rfl iy29 (get_lt hy29) rfl rfl) ?_
          refine wd_take (i := 12) [0, 1] rfl rfl rfl rfl rfl (by kernel_rfl) (by kernel_rfl) (fun _ _ _ _ h => h) (yh_field Tb rfl rfl rfl) ?_
          refine wd_take (i := 13) [0, 1] rfl rfl rfl rfl rfl (by kernel_rfl) (by kernel_rfl) (fun _ _ _ _ h => h) (yh_loadAF Tb (j := 0) rfl rfl rfl hc29 rfl) ?_
          refine wd_take (i := 14) [0, 1] rfl rfl rfl rfl rfl (by kernel_rfl) (by kernel_rfl) (fun _ _ _ _ h => h) (yh_field Tb rfl rfl rfl) ?_
          refine wd_take (i := 15) [0, 1] rfl rfl rfl rfl rfl (by kernel_rfl) (by kernel_rfl) (fun _ _ _ _ h => h) (yh_loadB Tb (k := 0) rfl rfl rfl rfl rfl) ?_
          refine wd_take (i := 16) [0, 1] rfl rfl rfl rfl rfl (by kernel_rfl) (by kernel_rfl) (fun _ _ _ _ h => h) (yh_cmpS rfl rfl rfl rfl) ?_
          refine wd_take (i := 17) [0, 1] rfl rfl rfl rfl rfl (by kernel_rfl) (by kernel_rfl) (fun _ _ _ _ h => h) (yh_pickT rfl rfl rfl) ?_
          refine wd_take (i := 18) [0, 1] rfl rfl rfl rfl rfl (by kernel_rfl) (by kernel_rfl) (fun _ _ _ _ h => h) (yh_pickF rfl rfl rfl) ?_
          refine wd_done (by kernel_rfl) ?_
          refine ex_seq ?_
          refine cw_split rfl (fun cc6 => ?_) (fun cc6 => ?_)
          · skip
            replace h := bt cc6 h
            refine cw_seq ?_
            refine cw_region ?_
            refine wl_u rfl (ow_y (yh_assign rfl rfl) rfl rfl (kk_wl ?_))
            refine wl_nil ?_
            refine ex_seq ?_
            refine cw_ret ?_
            refine ex_then_ret ?_
            refine ex_block_ret ?_
            refine ex_then_ret ?_
            refine ex_then_ret ?_
            refine ex_block_ret ?_
            refine ex_then_ret ?_
            obtain rfl := Option.some.inj h
            obtain rfl := go_ret hk114
            obtain rfl := go_ret hk9
            exact ex_r1 Tb rfl (.tmp rfl) (fun wq hq => ⟨_, rfl, hq.ext, rfl⟩)
          · skip
            replace h := bf cc6 h
            refine cw_skip ?_
            obtain rfl := Option.some.inj h
            exact ex_next [1, 0] (hn114 ((), ()) rfl) ⟨rfl, rfl, rfl, trivial⟩ (by kernel_rfl)
        · skip
          replace h := bf cc5 h
          have q7 := ltb_false.1 cc5
          refine wd_skip (i := 7) [0, 1] rfl rfl rfl rfl (by kernel_rfl) (by kernel_rfl) (fun _ _ _ h => h) ?_
          refine wd_skip (i := 8) [0, 1] rfl rfl rfl rfl (by kernel_rfl) (by kernel_rfl) (fun _ _ _ h => h) ?_
          refine wd_skip (i := 9) [0, 1] rfl rfl rfl rfl (by kernel_rfl) (by kernel_rfl) (fun _ _ _ h => h) ?_
          refine wd_skip (i := 10) [0, 1] rfl rfl rfl rfl (by kernel_rfl) (by kernel_rfl) (fun _ _ _ h => h) ?_
          refine wd_skip (i := 11) [0, 1] rfl rfl rfl rfl (by kernel_rfl) (by kernel_rfl) (fun _ _ _ h => h) ?_
          refine wd_skip (i := 12) [0, 1] rfl rfl rfl rfl (by kernel_rfl) (by kernel_rfl) (fun _ _ _ h => h) ?_
          refine wd_skip (i := 13) [0, 1] rfl rfl rfl rfl (by kernel_rfl) (by kernel_rfl) (fun _ _ _ h => h) ?_
          refine wd_skip (i := 14) [0, 1] rfl rfl rfl rfl (by kernel_rfl) (by kernel_rfl) (fun _ _ _ h => h) ?_
          refine wd_skip (i := 15) [0, 1] rfl rfl rfl rfl (by kernel_rfl) (by kernel_rfl) (fun _ _ _ h => h) ?_
          refine wd_skip (i := 16) [0, 1] rfl rfl rfl rfl (by kernel_rfl) (by kernel_rfl) (fun _ _ _ h => h) ?_
          refine wd_take (i := 17) [0, 1] rfl rfl rfl rfl rfl (by kernel_rfl) (by kernel_rfl) (fun _ _ _ _ h => h) (yh_pickF rfl rfl rfl) ?_
          refine wd_take (i := 18) [0, 1] rfl rfl rfl rfl rfl (by kernel_rfl) (by kernel_rfl) (fun _ _ _ _ h => h) (yh_pickF rfl rfl rfl) ?_
          refine wd_done (by kernel_rfl) ?_
          refine ex_seq ?_
          refine cw_false rfl ?_
          refine cw_skip ?_
          obtain rfl := Option.some.inj h
          exact ex_next [1, 0] (hn114 ((), ()) rfl) ⟨rfl, rfl, rfl, trivial⟩ (by kernel_rfl)
  · skip
    replace h := bf cc1 h
    have q8 := ltb_false.1 cc1
    refine cw_exit ?_
    refine ex_then_exit ?_
    refine ex_then_exit ?_
    obtain rfl := Option.some.inj h
    have h := go_brk hk9
    refine ex_block_exit ?_
    refine ex_seq ?_
    refine cw_seq ?_
    refine cw_dr [0, 1, 3, 4, 5, 6, 8, 9, 10, 11, 13, 14, 15, 16, 17, 18, 19] [] [blkC g1 25 [.int .i64 u0.ver, .slice a_u0_steps u0.steps.length c_u0_steps]] (by kernel_rfl) ?_
    refine wd_take (i := 0) [0] rfl rfl rfl rfl rfl (by kernel_rfl) (by kernel_rfl) (fun _ _ _ _ h => h) (yh_field Tb rfl rfl rfl) ?_
    refine wd_take (i := 1) [0] rfl rfl rfl rfl rfl (by kernel_rfl) (by kernel_rfl) (fun _ _ _ _ h => h) (yh_loadB Tb (k := 0) rfl rfl rfl rfl rfl) ?_
    obtain ⟨x55, hx55, h⟩ := bd h
    refine wd_one 2 rfl rfl (by kernel_rfl) (ow_cV rfl hb75 rfl (fun w hw => c_spec_l6In N _ _ _ _ hx55 w) rfl rfl (kk_wd [0] (by kernel_rfl) ?_))
    refine wd_take (i := 3) [0] rfl rfl rfl rfl rfl (by kernel_rfl) (by kernel_rfl) (fun _ _ _ _ h => h) (yh_move rfl rfl) ?_
    refine wd_split 4 rfl rfl rfl (fun cc7 => ?_) (fun cc7 => ?_)
    · skip
      replace h := bt cc7 h
      refine wd_take (i := 4) [0] rfl rfl rfl rfl rfl (by kernel_rfl) (by kernel_rfl) (fun _ _ _ _ h => h) (yh_field Tb rfl rfl rfl) ?_
      refine wd_take (i := 5) [0] rfl rfl rfl rfl rfl (by kernel_rfl) (by kernel_rfl) (fun _ _ _ _ h => h) (yh_loadB Tb (k := 0) rfl rfl rfl rfl rfl) ?_
      refine wd_take (i := 6) [0] rfl rfl rfl rfl rfl (by kernel_rfl) (by kernel_rfl) (fun _ _ _ _ h => h) (yh_lenS Tb rfl rfl rfl rfl) ?_
      obtain ⟨x60, hx60, h⟩ := bd h
      refine wd_one 7 rfl rfl (by kernel_rfl) (ow_cV rfl hb75 rfl (fun w hw => c_spec_l6In N _ _ _ _ hx60 w) rfl rfl (kk_wd [0] (by kernel_rfl) ?_))
      refine wd_take (i := 8) [0] rfl rfl rfl rfl rfl (by kernel_rfl) (by kernel_rfl) (fun _ _ _ _ h => h) (yh_pickT rfl rfl rfl) ?_
      refine wd_take (i := 9) [0] rfl rfl rfl rfl rfl (by kernel_rfl) (by kernel_rfl) (fun _ _ _ _ h => h) (yh_move rfl rfl) ?_
      refine wd_split 10 rfl rfl rfl (fun cc8 => ?_) (fun cc8 => ?_)
      · skip
        replace h := bt cc8 h
        refine wd_take (i := 10) [0] rfl rfl rfl rfl rfl (by kernel_rfl) (by kernel_rfl) (fun _ _ _ _ h => h) (yh_field Tb rfl rfl rfl) ?_
        refine wd_take (i := 11) [0] rfl rfl rfl rfl rfl (by kernel_rfl) (by kernel_rfl) (fun _ _ _ _ h => h) (yh_loadB Tb (k := 0) rfl rfl rfl rfl rfl) ?_
        refine wd_take (i := 14) [0] rfl rfl rfl rfl rfl (by kernel_rfl) (by kernel_rfl) (fun _ _ _ _ h => h) (yh_field Tb rfl rfl rfl) ?_
        refine wd_take (i := 15) [0] rfl rfl rfl rfl rfl (by kernel_rfl) (by kernel_rfl) (fun _ _ _ _ h => h) (yh_loadB Tb (k := 0) rfl rfl rfl rfl rfl) ?_
        refine wd_take (i := 16) [0] rfl rfl rfl rfl rfl (by kernel_rfl) (by kernel_rfl) (fun _ _ _ _ h => h) (yh_lenS Tb rfl rfl rfl rfl) ?_
        obtain ⟨x65, hx65, h⟩ := bd h
        refine wd_one 12 rfl rfl (by kernel_rfl) (ow_cN1 rfl hb76 rfl (fun w hw => c_spec_l2Order N _ _ hx65 w (Lay.at_ h_u0_steps hw)) rfl rfl (fun a65 c65 F65 => kk_wd [1] (by kernel_rfl) ?_))
        refine wd_know (x65.length ≤ 9223372036854775807) (fun w hw => own_max 0 rfl hw) (fun mo66 => ?_)
        refine wd_take (i := 13) [1] rfl rfl rfl rfl rfl (by kernel_rfl) (by kernel_rfl) (fun _ _ _ _ h => h) (yh_lenS Tb rfl rfl rfl rfl) ?_
        refine wd_take (i := 17) [1] rfl rfl rfl rfl rfl (by kernel_rfl) (by kernel_rfl) (fun _ _ _ _ h => h) (yh_cmpI rfl rfl rfl rfl) ?_
        refine wd_take (i := 18) [1] rfl rfl rfl rfl rfl (by kernel_rfl) (by kernel_rfl) (fun _ _ _ _ h => h) (yh_pickT rfl rfl rfl) ?_
        refine wd_take (i := 19) [1] rfl rfl rfl rfl rfl (by kernel_rfl) (by kernel_rfl) (fun _ _ _ _ h => h) (yh_assign rfl rfl) ?_
        refine wd_done (by kernel_rfl) ?_
        refine ex_seq ?_
        refine cw_ret ?_
        obtain rfl := Option.some.inj h
        exact ex_r1 Tb rfl (.tmp rfl) (fun wq hq => ⟨_, rfl, hq.ext, rfl⟩)
      · skip
        replace h := bf cc8 h
        refine wd_skip (i := 10) [0] rfl rfl rfl rfl (by kernel_rfl) (by kernel_rfl) (fun _ _ _ h => h) ?_
        refine wd_skip (i := 11) [0] rfl rfl rfl rfl (by kernel_rfl) (by kernel_rfl) (fun _ _ _ h => h) ?_
        refine wd_skip (i := 14) [0] rfl rfl rfl rfl (by kernel_rfl) (by kernel_rfl) (fun _ _ _ h => h) ?_
        refine wd_skip (i := 15) [0] rfl rfl rfl rfl (by kernel_rfl) (by kernel_rfl) (fun _ _ _ h => h) ?_
        refine wd_skip (i := 16) [0] rfl rfl rfl rfl (by kernel_rfl) (by kernel_rfl) (fun _ _ _ h => h) ?_
        refine wd_offD 12 rfl rfl rfl rfl (by kernel_rfl) [0] (fun _ => rfl) ?_
        refine wd_skip (i := 13) [0] rfl rfl rfl rfl (by kernel_rfl) (by kernel_rfl) (fun _ _ _ h => h) ?_
        refine wd_skip (i := 17) [0] rfl rfl rfl rfl (by kernel_rfl) (by kernel_rfl) (fun _ _ _ h => h) ?_
        refine wd_take (i := 18) [0] rfl rfl rfl rfl rfl (by kernel_rfl) (by kernel_rfl) (fun _ _ _ _ h => h) (yh_pickF rfl rfl rfl) ?_
        refine wd_take (i := 19) [0] rfl rfl rfl rfl rfl (by kernel_rfl) (by kernel_rfl) (fun _ _ _ _ h => h) (yh_assign rfl rfl) ?_
        refine wd_done (by kernel_rfl) ?_
        refine ex_seq ?_
        refine cw_ret ?_
        obtain rfl := Option.some.inj h
        exact ex_r1 Tb rfl (.tmp rfl) (fun wq hq => ⟨_, rfl, hq.ext, rfl⟩)
    · skip
      replace h := bf cc7 h
      refine wd_skip (i := 4) [0] rfl rfl rfl rfl (by kernel_rfl) (by kernel_rfl) (fun _ _ _ h => h) ?_
      refine wd_skip (i := 5) [0] rfl rfl rfl rfl (by kernel_rfl) (by kernel_rfl) (fun _ _ _ h => h) ?_
      refine wd_skip (i := 6) [0] rfl rfl rfl rfl (by kernel_rfl) (by kernel_rfl) (fun _ _ _ h => h) ?_
      refine wd_offD 7 rfl rfl rfl rfl (by kernel_rfl) [0] (fun _ => rfl) ?_
      refine wd_take (i := 8) [0] rfl rfl rfl rfl rfl (by kernel_rfl) (by kernel_rfl) (fun _ _ _ _ h => h) (yh_pickF rfl rfl rfl) ?_
      refine wd_take (i := 9) [0] rfl rfl rfl rfl rfl (by kernel_rfl) (by kernel_rfl) (fun _ _ _ _ h => h) (yh_move rfl rfl) ?_
      refine wd_split 10 rfl rfl rfl nofun (fun _ => ?_)
      refine wd_skip (i := 10) [0] rfl rfl rfl rfl (by kernel_rfl) (by kernel_rfl) (fun _ _ _ h => h) ?_
      refine wd_skip (i := 11) [0] rfl rfl rfl rfl (by kernel_rfl) (by kernel_rfl) (fun _ _ _ h => h) ?_
      refine wd_skip (i := 14) [0] rfl rfl rfl rfl (by kernel_rfl) (by kernel_rfl) (fun _ _ _ h => h) ?_
      refine wd_skip (i := 15) [0] rfl rfl rfl rfl (by kernel_rfl) (by kernel_rfl) (fun _ _ _ h => h) ?_
      refine wd_skip (i := 16) [0] rfl rfl rfl rfl (by kernel_rfl) (by kernel_rfl) (fun _ _ _ h => h) ?_
      refine wd_offD 12 rfl rfl rfl rfl (by kernel_rfl) [0] (fun _ => rfl) ?_
      refine wd_skip (i := 13) [0] rfl rfl rfl rfl (by kernel_rfl) (by kernel_rfl) (fun _ _ _ h => h) ?_
      refine wd_skip (i := 17) [0] rfl rfl rfl rfl (by kernel_rfl) (by kernel_rfl) (fun _ _ _ h => h) ?_
      refine wd_take (i := 18) [0] rfl rfl rfl rfl rfl (by kernel_rfl) (by kernel_rfl) (fun _ _ _ _ h => h) (yh_pickF rfl rfl rfl) ?_
      refine wd_take (i := 19) [0] rfl rfl rfl rfl rfl (by kernel_rfl) (by kernel_rfl) (fun _ _ _ _ h => h) (yh_assign rfl rfl) ?_
      refine wd_done (by kernel_rfl) ?_
      refine ex_seq ?_
      refine cw_ret ?_
      obtain rfl := Option.some.inj h
      exact ex_r1 Tb rfl (.tmp rfl) (fun wq hq => ⟨_, rfl, hq.ext, rfl⟩)

def m_spec_l2Step (N : Nat) (s_ : Step) : Option (Step) := (appd ([] : List Str) s_.after).bind fun l6 => some (Step.mk s_.name (([] : List Str) ++ s_.after) s_.undo)

set_option maxHeartbeats 4000000 in
theorem c_spec_l2Step (N : Nat) (s_ : Step) (res : Step) (h : m_spec_l2Step N s_ = some res) (w : World) {a_s__after : Option Addr} {c_s__after : Nat} (h_s__after : strsL.rd w [] [.slice a_s__after s_.after.length c_s__after] s_.after) : Ret Try.prog 84 [.agg #[.string s_.name, .slice a_s__after s_.after.length c_s__after, .bool s_.undo]] w [] fun v w' => ∃ a1 c1 F1, v = .agg #[.string res.name, .slice a1 res.after.length c1, .bool res.undo] ∧ NewC w w' [owC strsL F1 [.slice a1 res.after.length c1] res.after] := by
  have mh_s__after := rd_max h_s__after
  unfold m_spec_l2Step at h
  refine ret_enter Try.func84 rfl Try.ntmps84 rfl (Hp.refl w _) ?_
  refine cw_seq ?_
  refine cw_region ?_
  refine wl_u rfl (ow_boxA rfl rfl rfl rfl (fun g1 => kk_wl ?_))
  refine wl_u rfl (ow_allocA Tb rfl rfl rfl rfl (fun g2 => kk_wl ?_))
  refine wl_nil ?_
  refine ex_seq ?_
  refine cw_seq ?_
  refine cw_region ?_
  refine wl_u rfl (ow_lit0 Tb rfl rfl rfl rfl rfl rfl (fun g3 => kk_chg (c' := owC strsL [g3] [.slice (some ⟨g3, 0, none⟩) 0 0] ([] : List Str)) 0 rfl (fun w hA => own_strsL ([] : List Str) hA rfl (by simp [maxLen])) rfl (kk_wl ?_)))
  refine wl_u rfl (ow_y (yh_field Tb rfl rfl rfl) rfl rfl (kk_wl ?_))
  refine wl_u rfl (ow_y (yh_loadB Tb (k := 2) rfl rfl rfl rfl rfl) rfl rfl (kk_wl ?_))
  obtain ⟨hll6, h⟩ := bd_appd h
  refine wl_u rfl (ow_appP Tb (i := 0) rfl rfl rfl rfl rfl (fun w hw => Lay.at_ h_s__after hw) rfl rfl rfl rfl hll6 (by decide) rfl rfl (fun a6 c6 F6 => kk_wl ?_))
  refine wl_u rfl (ow_y (yh_field Tb rfl rfl rfl) rfl rfl (kk_wl ?_))
  refine wl_u rfl (ow_store1 Tb (k := 2) rfl rfl rfl rfl rfl rfl rfl rfl rfl (kk_wl ?_))
  refine wl_nil ?_
  refine ex_seq ?_
  refine cw_seq ?_
  refine cw_region ?_
  refine wl_u rfl (ow_y (yh_loadBA Tb (k := 0) rfl rfl rfl rfl rfl rfl) rfl rfl (kk_wl ?_))
  refine wl_u rfl (ow_storeA Tb (k := 2) rfl rfl rfl rfl rfl rfl rfl rfl rfl (kk_wl ?_))
  refine wl_nil ?_
  refine ex_seq ?_
  refine cw_ret ?_
  obtain rfl := Option.some.inj h
  exact ex_r1 Tb rfl (.cellA 0 rfl rfl rfl rfl rfl) (fun wq hq => ⟨_, rfl, hq.ext, ⟨a6, c6, F6, rfl, NewC.sel [2] hq rfl⟩⟩)

def m_spec_l12With_L11 (N : Nat) (steps : List Step) (s_ : Step) : Nat → (List Step) → Bool → Nat → Option (Ex (List Step × Bool × Nat) (List Step))
  | 0, _, _, _ => none
  | n + 1, s5, s6, s7 => (bif ltb ((s7 : Nat) : Int) ((steps.length : Nat) : Int) then ((bif !s6 then (steps[s7]?).bind fun y20 => (bif !(slt y20.name s_.name) then (m_spec_l2Step N s_).bind fun x29 => (appd s5 [x29]).bind fun l31 => some ((s5 ++ [x29]), true)
 else some (s5, s6))
 else some (s5, s6)) : Option ((List Step) × Bool)).bind fun j115 => (steps[s7]?).bind fun y34 => (bif !(seq y34.name s_.name) then (m_spec_l2Step N y34).bind fun x45 => (appd j115.1 [x45]).bind fun l47 => m_spec_l12With_L11 N steps s_ n (j115.1 ++ [x45]) j115.2 (s7 + 1)
 else m_spec_l12With_L11 N steps s_ n j115.1 j115.2 (s7 + 1))
 else some (Ex.brk (s5, s6, s7)))

def m_spec_l12With (N : Nat) (steps : List Step) (s_ : Step) : Option (List Step) := (m_spec_l12With_L11 N steps s_ N ([] : List Step) false 0).bind fun e11 => e11.go (fun r => r) fun b11 => (bif !b11.2.1 then (m_spec_l2Step N s_).bind fun x52 => (appd b11.1 [x52]).bind fun l54 => some (b11.1 ++ [x52])
 else some b11.1)

set_option maxHeartbeats 4000000 in
theorem c_spec_l12With (N : Nat) (steps : List Step) (s_ : Step) (res : List Step) (h : m_spec_l12With N steps s_ = some res) (w : World) {a_s__after a_steps : Option Addr} {c_s__after c_steps : Nat} (h_steps : stepsL.rd w [] [.slice a_steps steps.length c_steps] steps) (h_s__after : strsL.rd w [] [.slice a_s__after s_.after.length c_s__after] s_.after) : Ret Try.prog 79 [.slice a_steps steps.length c_steps, .agg #[.string s_.name, .slice a_s__after s_.after.length c_s__after, .bool s_.undo]] w [] fun v w' => ∃ a1 c1 F1, v = .slice a1 res.length c1 ∧ NewC w w' [owC stepsL F1 [.slice a1 res.length c1] res] := by
  have mh_steps := rd_max h_steps
  have mh_s__after := rd_max h_s__after
  unfold m_spec_l12With at h
  refine ret_enter Try.func79 rfl Try.ntmps79 rfl (Hp.refl w _) ?_
  refine cw_seq ?_
  refine cw_region ?_
  refine wl_u rfl (ow_boxA rfl rfl rfl rfl (fun g3 => kk_wl ?_))
  refine wl_u rfl (ow_y (yh_assign rfl rfl) rfl rfl (kk_wl ?_))
  refine wl_nil ?_
  refine ex_seq ?_
  refine cw_seq ?_
  refine cw_region ?_
  refine wl_u rfl (ow_lit0 Tb rfl rfl rfl rfl rfl rfl (fun g8 => kk_chg (c' := owC stepsL [g8] [.slice (some ⟨g8, 0, none⟩) 0 0] ([] : List Step)) 0 rfl (fun w hA => own_stepsL ([] : List Step) hA rfl (by simp [maxLen])) rfl (kk_wl ?_)))
  refine wl_u rfl (ow_y (yh_assign rfl rfl) rfl rfl (kk_wl ?_))
  refine wl_nil ?_
  refine ex_seq ?_
  refine cw_seq ?_
  refine cw_region ?_
  refine wl_u rfl (ow_y (yh_assign rfl rfl) rfl rfl (kk_wl ?_))
  refine wl_nil ?_
  refine ex_seq ?_
  refine cw_seq ?_
  refine cw_seq ?_
  refine cw_region ?_
  refine wl_u rfl (ow_y (yh_assign rfl rfl) rfl rfl (kk_wl ?_))
  refine wl_nil ?_
  refine ex_seq ?_
  refine cw_block ?_
  obtain ⟨e11, he11, hk11⟩ := bd h
  clear h
  refine cw_loopG (σ := Nat × (List Step) × Bool × Nat × (Option Addr) × Nat × (List Nat)) (fun s => m_spec_l12With_L11 N steps s_ s.1 s.2.1 s.2.2.1 s.2.2.2.1 = some e11) (fun s => [(0, .slice a_steps steps.length c_steps), (3, .pointer (some ⟨g3, 0, none⟩)), (5, .slice s.2.2.2.2.1 s.2.1.length s.2.2.2.2.2.1), (6, .bool s.2.2.1), (7, .int .i64 ((s.2.2.2.1 : Nat) : Int))]) (fun s => [blkC g3 28 [.string s_.name, .slice a_s__after s_.after.length c_s__after, .bool s_.undo], owC stepsL s.2.2.2.2.2.2 [.slice s.2.2.2.2.1 s.2.1.length s.2.2.2.2.2.1] s.2.1]) (fun s => s.1) (N, ([] : List Step), false, 0, (some ⟨g8, 0, none⟩), 0, [g8]) [1, 0] he11 ⟨rfl, rfl, rfl, rfl, rfl, trivial⟩ rfl (fun KL s he11 hn11 => ?_)
  obtain ⟨n11, s5, s6, s7, as5, cs5, Fs5⟩ := s
  simp only at he11 hn11 ⊢
  rcases n11 with _ | n11
  · exact nosome he11
  have h := he11; rw [m_spec_l12With_L11] at h
  refine cw_seq ?_
  refine cw_seq ?_
  refine cw_region ?_
  refine wl_u rfl (ow_y (yh_move rfl rfl) rfl rfl (kk_wl ?_))
  refine wl_u rfl (ow_y (yh_move rfl rfl) rfl rfl (kk_wl ?_))
  refine wl_u rfl (ow_y (yh_lenS Tb rfl rfl rfl rfl) rfl rfl (kk_wl ?_))
  refine wl_u rfl (ow_y (yh_cmpI rfl rfl rfl rfl) rfl rfl (kk_wl ?_))
  refine wl_nil ?_
  refine ex_seq ?_
  refine cw_split rfl (fun cc1 => ?_) (fun cc1 => ?_)
  · skip
    replace h := bt cc1 h
    have q1 := ltb_true.1 cc1
    refine cw_skip ?_
    refine ex_seq ?_
    refine cw_seq ?_
    refine cw_block ?_
    obtain ⟨j115, he115, hk115⟩ := bd h
    clear h
    refine cw_cut (σ := (Option Addr) × Nat × (List Nat)) (fun s => True) (fun s => [(0, .slice a_steps steps.length c_steps), (3, .pointer (some ⟨g3, 0, none⟩)), (5, .slice s.1 j115.1.length s.2.1), (6, .bool j115.2), (7, .int .i64 ((s7 : Nat) : Int))]) (fun s => [blkC g3 28 [.string s_.name, .slice a_s__after s_.after.length c_s__after, .bool s_.undo], owC stepsL s.2.2 [.slice s.1 j115.1.length s.2.1] j115.1]) (fun s hI => ?_) (fun KL hn115 => ?_)
    · skip
      obtain ⟨ak115_5, ck115_5, Fk115_5⟩ := s
      simp only at ⊢
      have h := hk115
      refine cw_seq ?_
      refine cw_dr [0, 1, 2, 3, 4, 5, 6, 7] [] [blkC g3 28 [.string s_.name, .slice a_s__after s_.after.length c_s__after, .bool s_.undo], owC stepsL Fk115_5 [.slice ak115_5 j115.1.length ck115_5] j115.1] (by kernel_rfl) ?_
      refine wd_take (i := 0) [0, 1] rfl rfl rfl rfl rfl (by kernel_rfl) (by kernel_rfl) (fun _ _ _ _ h => h) (yh_move rfl rfl) ?_
      refine wd_take (i := 1) [0, 1] rfl rfl rfl rfl rfl (by kernel_rfl) (by kernel_rfl) (fun _ _ _ _ h => h) (yh_move rfl rfl) ?_
      obtain ⟨y34, hy34, h⟩ := bd h
      obtain ⟨b34, o34, ha34⟩ := sl_addr h_steps hy34
      subst ha34
      obtain ⟨a34, e34, hc34, hf34⟩ := get_step h_steps hy34
      have mx34 := rd_max hf34
      refine wd_take (i := 2) [0, 1] rfl rfl rfl rfl rfl (by kernel_rfl) (by kernel_rfl) (fun _ _ _ _ h => h) (yh_idx Tb (k := s7) rfl rfl rfl rfl (get_lt hy34) rfl rfl) ?_
      refine wd_take (i := 3) [0, 1] rfl rfl rfl rfl rfl (by kernel_rfl) (by kernel_rfl) (fun _ _ _ _ h => h) (yh_field Tb rfl rfl rfl) ?_
      refine wd_take (i := 4) [0, 1] rfl rfl rfl rfl rfl (by kernel_rfl) (by kernel_rfl) (fun _ _ _ _ h => h) (yh_loadAF Tb (j := 0) rfl rfl rfl hc34 rfl) ?_
      refine wd_take (i := 5) [0, 1] rfl rfl rfl rfl rfl (by kernel_rfl) (by kernel_rfl) (fun _ _ _ _ h => h) (yh_field Tb rfl rfl rfl) ?_
      refine wd_take (i := 6) [0, 1] rfl rfl rfl rfl rfl (by kernel_rfl) (by kernel_rfl) (fun _ _ _ _ h => h) (yh_loadB Tb (k := 0) rfl rfl rfl rfl rfl) ?_
      refine wd_take (i := 7) [0, 1] rfl rfl rfl rfl rfl (by kernel_rfl) (by kernel_rfl) (fun _ _ _ _ h => h) (yh_cmpS rfl rfl rfl rfl) ?_
      refine wd_done (by kernel_rfl) ?_
      refine ex_seq ?_
      refine cw_split rfl (fun cc2 => ?_) (fun cc2 => ?_)
      · skip
        replace h := bt cc2 h
        refine cw_region ?_
        refine wl_u rfl (ow_y (yh_move rfl rfl) rfl rfl (kk_wl ?_))
        refine wl_u rfl (ow_y (yh_move rfl rfl) rfl rfl (kk_wl ?_))
        refine wl_u rfl (ow_y (yh_move rfl rfl) rfl rfl (kk_wl ?_))
        refine wl_u rfl (ow_y (yh_idx Tb (k := s7) rfl rfl rfl rfl (get_lt hy34) rfl rfl) rfl rfl (kk_wl ?_))
        refine wl_u rfl (ow_y (yh_loadAN Tb rfl rfl rfl rfl hc34 rfl) rfl rfl (kk_wl ?_))
        obtain ⟨x45, hx45, h⟩ := bd h
        refine wl_u rfl (ow_cN1 rfl hb84 rfl (fun w hw => c_spec_l2Step N _ _ hx45 w (Lay.at_ hf34 hw)) rfl rfl (fun a45 c45 F45 => kk_wl ?_))
        refine wl_u rfl (ow_litA Tb rfl rfl rfl rfl rfl rfl (by decide) rfl rfl (fun g46 => kk_wl ?_))
        obtain ⟨hll47, h⟩ := bd_appd h
        refine wl_u rfl (ow_chg (c' := owC stepL F45 [.string x45.name, .slice a45 x45.after.length c45, .bool x45.undo] x45) 1 rfl (fun w hA => stepL_mk x45 hA) rfl (ow_appE Tb (i := 3) (j := 0) (k := 1) rfl rfl rfl rfl rfl rfl rfl rfl rfl rfl rfl (app1 hll47) (by decide) rfl rfl (fun a47 c47 F47 => kk_wl ?_)))
        refine wl_u rfl (ow_y (yh_assign rfl rfl) rfl rfl (kk_wl ?_))
        refine wl_nil ?_
        refine ex_block_normal ?_
        refine ex_seq ?_
        refine cw_region ?_
        refine wl_u rfl (ow_y (yh_move rfl rfl) rfl rfl (kk_wl ?_))
        refine wl_u rfl (ow_y (yh_arI rfl rfl rfl rfl (by omega)) rfl rfl (kk_wl ?_))
        refine wl_u rfl (ow_y (yh_assign rfl rfl) rfl rfl (kk_wl ?_))
        refine wl_nil ?_
        exact ex_next [2, 0] (hn11 (n11, (j115.1 ++ [x45]), j115.2, s7 + 1, a47, c47, F47) (Nat.lt_succ_self _) h) ⟨rfl, rfl, rfl, rfl, rfl, trivial⟩ (by kernel_rfl)
      · skip
        replace h := bf cc2 h
        refine cw_skip ?_
        refine ex_block_normal ?_
        refine ex_seq ?_
        refine cw_region ?_
        refine wl_u rfl (ow_y (yh_move rfl rfl) rfl rfl (kk_wl ?_))
        refine wl_u rfl (ow_y (yh_arI rfl rfl rfl rfl (by omega)) rfl rfl (kk_wl ?_))
        refine wl_u rfl (ow_y (yh_assign rfl rfl) rfl rfl (kk_wl ?_))
        refine wl_nil ?_
        exact ex_next [0, 1] (hn11 (n11, j115.1, j115.2, s7 + 1, ak115_5, ck115_5, Fk115_5) (Nat.lt_succ_self _) h) ⟨rfl, rfl, rfl, rfl, rfl, trivial⟩ (by kernel_rfl)
    · skip
      have h := he115
      refine cw_seq ?_
      refine cw_dr [0, 1, 2, 3, 4, 5, 6, 7, 8, 9, 10, 11] [] [blkC g3 28 [.string s_.name, .slice a_s__after s_.after.length c_s__after, .bool s_.undo], owC stepsL Fs5 [.slice as5 s5.length cs5] s5] (by kernel_rfl) ?_
      refine wd_take (i := 0) [0, 1] rfl rfl rfl rfl rfl (by kernel_rfl) (by kernel_rfl) (fun _ _ _ _ h => h) (yh_move rfl rfl) ?_
      refine wd_take (i := 1) [0, 1] rfl rfl rfl rfl rfl (by kernel_rfl) (by kernel_rfl) (fun _ _ _ _ h => h) (yh_not rfl rfl) ?_
      refine wd_take (i := 2) [0, 1] rfl rfl rfl rfl rfl (by kernel_rfl) (by kernel_rfl) (fun _ _ _ _ h => h) (yh_move rfl rfl) ?_
      refine wd_split 3 rfl rfl rfl (fun cc3 => ?_) (fun cc3 => ?_)
      · skip
        replace h := bt cc3 h
        refine wd_take (i := 3) [0, 1] rfl rfl rfl rfl rfl (by kernel_rfl) (by kernel_rfl) (fun _ _ _ _ h => h) (yh_move rfl rfl) ?_
        refine wd_take (i := 4) [0, 1] rfl rfl rfl rfl rfl (by kernel_rfl) (by kernel_rfl) (fun _ _ _ _ h => h) (yh_move rfl rfl) ?_
        obtain ⟨y20, hy20, h⟩ := bd h
        obtain ⟨b20, o20, ha20⟩ := sl_addr h_steps hy20
        subst ha20
        obtain ⟨a20, e20, hc20, hf20⟩ := get_step h_steps hy20
        have mx20 := rd_max hf20
        refine wd_take (i := 5) [0, 1] rfl rfl rfl rfl rfl (by kernel_rfl) (by kernel_rfl) (fun _ _ _ _ h => h) (yh_idx Tb (k := s7) rfl rfl rfl rfl (get_lt hy20) rfl rfl) ?_
        refine wd_take (i := 6) [0, 1] rfl rfl rfl rfl rfl (by kernel_rfl) (by kernel_rfl) (fun _ _ _ _ h => h) (yh_field Tb rfl rfl rfl) ?_
        refine wd_take (i := 7) [0, 1] rfl rfl rfl rfl rfl (by kernel_rfl) (by kernel_rfl) (fun _ _ _ _ h => h) (yh_loadAF Tb (j := 0) rfl rfl rfl hc20 rfl) ?_
        refine wd_take (i := 8) [0, 1] rfl rfl rfl rfl rfl (by kernel_rfl) (by kernel_rfl) (fun _ _ _ _ h => h) (yh_field Tb rfl rfl rfl) ?_
        refine wd_take (i := 9) [0, 1] rfl rfl rfl rfl rfl (by kernel_rfl) (by kernel_rfl) (fun _ _ _ _ h => h) (yh_loadB Tb (k := 0) rfl rfl rfl rfl rfl) ?_
        refine wd_take (i := 10) [0, 1] rfl rfl rfl rfl rfl (by kernel_rfl) (by kernel_rfl) (fun _ _ _ _ h => h) (yh_cmpS rfl rfl rfl rfl) ?_
        refine wd_take (i := 11) [0, 1] rfl rfl rfl rfl rfl (by kernel_rfl) (by kernel_rfl) (fun _ _ _ _ h => h) (yh_pickT rfl rfl rfl) ?_
        refine wd_done (by kernel_rfl) ?_
        refine ex_seq ?_
        refine cw_split rfl (fun cc4 => ?_) (fun cc4 => ?_)
        · skip
          replace h := bt cc4 h
          refine cw_seq ?_
          refine cw_region ?_
          refine wl_u rfl (ow_y (yh_move rfl rfl) rfl rfl (kk_wl ?_))
          refine wl_u rfl (ow_y (yh_loadBA Tb (k := 0) rfl rfl rfl rfl rfl rfl) rfl rfl (kk_wl ?_))
          obtain ⟨x29, hx29, h⟩ := bd h
          refine wl_u rfl (ow_cN1 rfl hb84 rfl (fun w hw => c_spec_l2Step N _ _ hx29 w (Lay.at_ h_s__after hw)) rfl rfl (fun a29 c29 F29 => kk_wl ?_))
          refine wl_u rfl (ow_litA Tb rfl rfl rfl rfl rfl rfl (by decide) rfl rfl (fun g30 => kk_wl ?_))
          obtain ⟨hll31, h⟩ := bd_appd h
          refine wl_u rfl (ow_chg (c' := owC stepL F29 [.string x29.name, .slice a29 x29.after.length c29, .bool x29.undo] x29) 1 rfl (fun w hA => stepL_mk x29 hA) rfl (ow_appE Tb (i := 3) (j := 0) (k := 1) rfl rfl rfl rfl rfl rfl rfl rfl rfl rfl rfl (app1 hll31) (by decide) rfl rfl (fun a31 c31 F31 => kk_wl ?_)))
          refine wl_u rfl (ow_y (yh_assign rfl rfl) rfl rfl (kk_wl ?_))
          refine wl_nil ?_
          refine ex_seq ?_
          refine cw_region ?_
          refine wl_u rfl (ow_y (yh_assign rfl rfl) rfl rfl (kk_wl ?_))
          refine wl_nil ?_
          obtain rfl := Option.some.inj h
          exact ex_next [2, 0] (hn115 (a31, c31, F31) trivial) ⟨rfl, rfl, rfl, rfl, rfl, trivial⟩ (by kernel_rfl)
        · skip
          replace h := bf cc4 h
          refine cw_skip ?_
          obtain rfl := Option.some.inj h
          exact ex_next [0, 1] (hn115 (as5, cs5, Fs5) trivial) ⟨rfl, rfl, rfl, rfl, rfl, trivial⟩ (by kernel_rfl)
      · skip
        replace h := bf cc3 h
        refine wd_skip (i := 3) [0, 1] rfl rfl rfl rfl (by kernel_rfl) (by kernel_rfl) (fun _ _ _ h => h) ?_
        refine wd_skip (i := 4) [0, 1] rfl rfl rfl rfl (by kernel_rfl) (by kernel_rfl) (fun _ _ _ h => h) ?_
        refine wd_skip (i := 5) [0, 1] rfl rfl rfl rfl (by kernel_rfl) (by kernel_rfl) (fun _ _ _ h => h) ?_
        refine wd_skip (i := 6) [0, 1] rfl rfl rfl rfl (by kernel_rfl) (by kernel_rfl) (fun _ _ _ h => h) ?_
        refine wd_skip (i := 7) [0, 1] rfl rfl rfl rfl (by kernel_rfl) (by kernel_rfl) (fun _ _ _ h => h) ?_
        refine wd_skip (i := 8) [0, 1] rfl rfl rfl rfl (by kernel_rfl) (by kernel_rfl) (fun _ _ _ h => h) ?_
        refine wd_skip (i := 9) [0, 1] rfl rfl rfl rfl (by kernel_rfl) (by kernel_rfl) (fun _ _ _ h => h) ?_
        refine wd_skip (i := 10) [0, 1] rfl rfl rfl rfl (by kernel_rfl) (by kernel_rfl) (fun _ _ _ h => h) ?_
        refine wd_take (i := 11) [0, 1] rfl rfl rfl rfl rfl (by kernel_rfl) (by kernel_rfl) (fun _ _ _ _ h => h) (yh_pickF rfl rfl rfl) ?_
        refine wd_done (by kernel_rfl) ?_
        refine ex_seq ?_
        refine cw_false rfl ?_
        refine cw_skip ?_
        obtain rfl := Option.some.inj h
        exact ex_next [0, 1] (hn115 (as5, cs5, Fs5) trivial) ⟨rfl, rfl, rfl, rfl, rfl, trivial⟩ (by kernel_rfl)
  · skip
    replace h := bf cc1 h
    have q2 := ltb_false.1 cc1
    refine cw_exit ?_
    refine ex_then_exit ?_
    refine ex_then_exit ?_
    obtain rfl := Option.some.inj h
    have h := go_brk hk11
    refine ex_block_exit ?_
    refine ex_seq ?_
    refine cw_seq ?_
    refine cw_seq ?_
    refine cw_region ?_
    refine wl_u rfl (ow_y (yh_move rfl rfl) rfl rfl (kk_wl ?_))
    refine wl_u rfl (ow_y (yh_not rfl rfl) rfl rfl (kk_wl ?_))
    refine wl_nil ?_
    refine ex_seq ?_
    refine cw_split rfl (fun cc5 => ?_) (fun cc5 => ?_)
    · skip
      replace h := bt cc5 h
      refine cw_region ?_
      refine wl_u rfl (ow_y (yh_move rfl rfl) rfl rfl (kk_wl ?_))
      refine wl_u rfl (ow_y (yh_loadBA Tb (k := 0) rfl rfl rfl rfl rfl rfl) rfl rfl (kk_wl ?_))
      obtain ⟨x52, hx52, h⟩ := bd h
      refine wl_u rfl (ow_cN1 rfl hb84 rfl (fun w hw => c_spec_l2Step N _ _ hx52 w (Lay.at_ h_s__after hw)) rfl rfl (fun a52 c52 F52 => kk_wl ?_))
      refine wl_u rfl (ow_litA Tb rfl rfl rfl rfl rfl rfl (by decide) rfl rfl (fun g53 => kk_wl ?_))
      obtain ⟨hll54, h⟩ := bd_appd h
      refine wl_u rfl (ow_chg (c' := owC stepL F52 [.string x52.name, .slice a52 x52.after.length c52, .bool x52.undo] x52) 1 rfl (fun w hA => stepL_mk x52 hA) rfl (ow_appE Tb (i := 3) (j := 0) (k := 1) rfl rfl rfl rfl rfl rfl rfl rfl rfl rfl rfl (app1 hll54) (by decide) rfl rfl (fun a54 c54 F54 => kk_wl ?_)))
      refine wl_u rfl (ow_y (yh_assign rfl rfl) rfl rfl (kk_wl ?_))
      refine wl_nil ?_
      refine ex_seq ?_
      refine cw_seq ?_
      refine cw_region ?_
      refine wl_u rfl (ow_y (yh_move rfl rfl) rfl rfl (kk_wl ?_))
      refine wl_u rfl (ow_y (yh_assign rfl rfl) rfl rfl (kk_wl ?_))
      refine wl_nil ?_
      refine ex_seq ?_
      refine cw_ret ?_
      obtain rfl := Option.some.inj h
      exact ex_r1 Tb rfl (.tmp rfl) (fun wq hq => ⟨_, rfl, hq.ext, ⟨a54, c54, F54, rfl, NewC.sel [0] hq rfl⟩⟩)
    · skip
      replace h := bf cc5 h
      refine cw_skip ?_
      refine ex_seq ?_
      refine cw_seq ?_
      refine cw_region ?_
      refine wl_u rfl (ow_y (yh_move rfl rfl) rfl rfl (kk_wl ?_))
      refine wl_u rfl (ow_y (yh_assign rfl rfl) rfl rfl (kk_wl ?_))
      refine wl_nil ?_
      refine ex_seq ?_
      refine cw_ret ?_
      obtain rfl := Option.some.inj h
      exact ex_r1 Tb rfl (.tmp rfl) (fun wq hq => ⟨_, rfl, hq.ext, ⟨as5, cs5, Fs5, rfl, NewC.sel [1] hq rfl⟩⟩)

def m_spec_l1Put_L6 (N : Nat) (list_ : List Str) (name : Str) : Nat → (List Str) → Bool → Nat → Option (Ex (List Str × Bool × Nat) (List Str))
  | 0, _, _, _ => none
  | n + 1, s5, s6, s7 => (bif ltb ((s7 : Nat) : Int) ((list_.length : Nat) : Int) then ((bif !s6 then (list_[s7]?).bind fun y20 => (bif !(slt y20 name) then (appd s5 ([name] : List Str)).bind fun l28 => some ((s5 ++ ([name] : List Str)), true)
 else some (s5, s6))
 else some (s5, s6)) : Option ((List Str) × Bool)).bind fun j110 => (list_[s7]?).bind fun y31 => (bif !(seq y31 name) then (appd j110.1 ([y31] : List Str)).bind fun l41 => m_spec_l1Put_L6 N list_ name n (j110.1 ++ ([y31] : List Str)) j110.2 (s7 + 1)
 else m_spec_l1Put_L6 N list_ name n j110.1 j110.2 (s7 + 1))
 else some (Ex.brk (s5, s6, s7)))

def m_spec_l1Put (N : Nat) (list_ : List Str) (name : Str) : Option (List Str) := (m_spec_l1Put_L6 N list_ name N ([] : List Str) false 0).bind fun e6 => e6.go (fun r => r) fun b6 => (bif !b6.2.1 then (appd b6.1 ([name] : List Str)).bind fun l47 => some (b6.1 ++ ([name] : List Str))
 else some b6.1)

set_option maxHeartbeats 4000000 in
theorem c_spec_l1Put (N : Nat) (list_ : List Str) (name : Str) (res : List Str) (h : m_spec_l1Put N list_ name = some res) (w : World) {a_list_ : Option Addr} {c_list_ : Nat} (h_list_ : strsL.rd w [] [.slice a_list_ list_.length c_list_] list_) : Ret Try.prog 101 [.slice a_list_ list_.length c_list_, .string name] w [] fun v w' => ∃ a1 c1 F1, v = .slice a1 res.length c1 ∧ NewC w w' [owC strsL F1 [.slice a1 res.length c1] res] := by
  have mh_list_ := rd_max h_list_
  unfold m_spec_l1Put at h
  refine ret_enter Try.func101 rfl Try.ntmps101 rfl (Hp.refl w _) ?_
  refine cw_seq ?_
  refine cw_region ?_
  refine wl_u rfl (ow_y (yh_assign rfl rfl) rfl rfl (kk_wl ?_))
  refine wl_nil ?_
  refine ex_seq ?_
  refine cw_seq ?_
  refine cw_region ?_
  refine wl_u rfl (ow_lit0 Tb rfl rfl rfl rfl rfl rfl (fun g8 => kk_chg (c' := owC strsL [g8] [.slice (some ⟨g8, 0, none⟩) 0 0] ([] : List Str)) 0 rfl (fun w hA => own_strsL ([] : List Str) hA rfl (by simp [maxLen])) rfl (kk_wl ?_)))
  refine wl_u rfl (ow_y (yh_assign rfl rfl) rfl rfl (kk_wl ?_))
  refine wl_nil ?_
  refine ex_seq ?_
  refine cw_seq ?_
  refine cw_region ?_
  refine wl_u rfl (ow_y (yh_assign rfl rfl) rfl rfl (kk_wl ?_))
  refine wl_nil ?_
  refine ex_seq ?_
  refine cw_seq ?_
  refine cw_seq ?_
  refine cw_region ?_
  refine wl_u rfl (ow_y (yh_assign rfl rfl) rfl rfl (kk_wl ?_))
  refine wl_nil ?_
  refine ex_seq ?_
  refine cw_block ?_
  obtain ⟨e6, he6, hk6⟩ := bd h
  clear h
  refine cw_loopG (σ := Nat × (List Str) × Bool × Nat × (Option Addr) × Nat × (List Nat)) (fun s => m_spec_l1Put_L6 N list_ name s.1 s.2.1 s.2.2.1 s.2.2.2.1 = some e6) (fun s => [(0, .slice a_list_ list_.length c_list_), (1, .string name), (5, .slice s.2.2.2.2.1 s.2.1.length s.2.2.2.2.2.1), (6, .bool s.2.2.1), (7, .int .i64 ((s.2.2.2.1 : Nat) : Int))]) (fun s => [owC strsL s.2.2.2.2.2.2 [.slice s.2.2.2.2.1 s.2.1.length s.2.2.2.2.2.1] s.2.1]) (fun s => s.1) (N, ([] : List Str), false, 0, (some ⟨g8, 0, none⟩), 0, [g8]) [0] he6 ⟨rfl, rfl, rfl, rfl, rfl, trivial⟩ rfl (fun KL s he6 hn6 => ?_)
  obtain ⟨n6, s5, s6, s7, as5, cs5, Fs5⟩ := s
  simp only at he6 hn6 ⊢
  rcases n6 with _ | n6
  · exact nosome he6
  have h := he6; rw [m_spec_l1Put_L6] at h
  refine cw_seq ?_
  refine cw_seq ?_
  refine cw_region ?_
  refine wl_u rfl (ow_y (yh_move rfl rfl) rfl rfl (kk_wl ?_))
  refine wl_u rfl (ow_y (yh_move rfl rfl) rfl rfl (kk_wl ?_))
  refine wl_u rfl (ow_y (yh_lenS Tb rfl rfl rfl rfl) rfl rfl (kk_wl ?_))
  refine wl_u rfl (ow_y (yh_cmpI rfl rfl rfl rfl) rfl rfl (kk_wl ?_))
  refine wl_nil ?_
  refine ex_seq ?_
  refine cw_split rfl (fun cc1 => ?_) (fun cc1 => ?_)
  · skip
    replace h := bt cc1 h
    have q1 := ltb_true.1 cc1
    refine cw_skip ?_
    refine ex_seq ?_
    refine cw_seq ?_
    refine cw_block ?_
    obtain ⟨j110, he110, hk110⟩ := bd h
    clear h
    refine cw_cut (σ := (Option Addr) × Nat × (List Nat)) (fun s => True) (fun s => [(0, .slice a_list_ list_.length c_list_), (1, .string name), (5, .slice s.1 j110.1.length s.2.1), (6, .bool j110.2), (7, .int .i64 ((s7 : Nat) : Int))]) (fun s => [owC strsL s.2.2 [.slice s.1 j110.1.length s.2.1] j110.1]) (fun s hI => ?_) (fun KL hn110 => ?_)
    · skip
      obtain ⟨ak110_5, ck110_5, Fk110_5⟩ := s
      simp only at ⊢
      have h := hk110
      refine cw_seq ?_
      refine cw_region ?_
      refine wl_u rfl (ow_y (yh_move rfl rfl) rfl rfl (kk_wl ?_))
      refine wl_u rfl (ow_y (yh_move rfl rfl) rfl rfl (kk_wl ?_))
      obtain ⟨y31, hy31, h⟩ := bd h
      obtain ⟨b31, o31, ha31⟩ := sl_addr h_list_ hy31
      subst ha31
      have hc31 := get_str h_list_ hy31
      refine wl_u rfl (ow_y (yh_idx Tb (k := s7) rfl rfl rfl rfl (get_lt hy31) rfl rfl) rfl rfl (kk_wl ?_))
      refine wl_u rfl (ow_y (yh_loadA0 Tb rfl rfl rfl hc31 rfl) rfl rfl (kk_wl ?_))
      refine wl_u rfl (ow_y (yh_move rfl rfl) rfl rfl (kk_wl ?_))
      refine wl_u rfl (ow_y (yh_cmpS rfl rfl rfl rfl) rfl rfl (kk_wl ?_))
      refine wl_nil ?_
      refine ex_seq ?_
      refine cw_split rfl (fun cc2 => ?_) (fun cc2 => ?_)
      · skip
        replace h := bt cc2 h
        refine cw_region ?_
        refine wl_u rfl (ow_y (yh_move rfl rfl) rfl rfl (kk_wl ?_))
        refine wl_u rfl (ow_y (yh_move rfl rfl) rfl rfl (kk_wl ?_))
        refine wl_u rfl (ow_y (yh_move rfl rfl) rfl rfl (kk_wl ?_))
        refine wl_u rfl (ow_y (yh_idx Tb (k := s7) rfl rfl rfl rfl (get_lt hy31) rfl rfl) rfl rfl (kk_wl ?_))
        refine wl_u rfl (ow_y (yh_loadA0 Tb rfl rfl rfl hc31 rfl) rfl rfl (kk_wl ?_))
        refine wl_u rfl (ow_lit1 Tb rfl rfl rfl rfl rfl rfl rfl rfl rfl rfl (fun g40 => kk_chg (c' := owC strsL [g40] [.slice (some ⟨g40, 0, none⟩) 1 1] ([y31] : List Str)) 0 rfl (fun w hA => own_strsL ([y31] : List Str) hA rfl (by simp [maxLen])) rfl (kk_wl ?_)))
        obtain ⟨hll41, h⟩ := bd_appd h
        refine wl_u rfl (ow_appP Tb (i := 1) rfl rfl rfl rfl rfl (fun w hw => rdo (A := strsL) 0 rfl hw) rfl rfl rfl rfl hll41 (by decide) rfl rfl (fun a41 c41 F41 => kk_wl ?_))
        refine wl_u rfl (ow_y (yh_assign rfl rfl) rfl rfl (kk_wl ?_))
        refine wl_nil ?_
        refine ex_block_normal ?_
        refine ex_seq ?_
        refine cw_region ?_
        refine wl_u rfl (ow_y (yh_move rfl rfl) rfl rfl (kk_wl ?_))
        refine wl_u rfl (ow_y (yh_arI rfl rfl rfl rfl (by omega)) rfl rfl (kk_wl ?_))
        refine wl_u rfl (ow_y (yh_assign rfl rfl) rfl rfl (kk_wl ?_))
        refine wl_nil ?_
        exact ex_next [0] (hn6 (n6, (j110.1 ++ ([y31] : List Str)), j110.2, s7 + 1, a41, c41, F41) (Nat.lt_succ_self _) h) ⟨rfl, rfl, rfl, rfl, rfl, trivial⟩ (by kernel_rfl)
      · skip
        replace h := bf cc2 h
        refine cw_skip ?_
        refine ex_block_normal ?_
        refine ex_seq ?_
        refine cw_region ?_
        refine wl_u rfl (ow_y (yh_move rfl rfl) rfl rfl (kk_wl ?_))
        refine wl_u rfl (ow_y (yh_arI rfl rfl rfl rfl (by omega)) rfl rfl (kk_wl ?_))
        refine wl_u rfl (ow_y (yh_assign rfl rfl) rfl rfl (kk_wl ?_))
        refine wl_nil ?_
        exact ex_next [0] (hn6 (n6, j110.1, j110.2, s7 + 1, ak110_5, ck110_5, Fk110_5) (Nat.lt_succ_self _) h) ⟨rfl, rfl, rfl, rfl, rfl, trivial⟩ (by kernel_rfl)
    · skip
      have h := he110
      refine cw_seq ?_
      refine cw_region ?_
      refine wl_u rfl (ow_y (yh_move rfl rfl) rfl rfl (kk_wl ?_))
      refine wl_u rfl (ow_y (yh_not rfl rfl) rfl rfl (kk_wl ?_))
      refine wl_u rfl (ow_y (yh_move rfl rfl) rfl rfl (kk_wl ?_))
      refine wl_s rfl rfl (fun cc3 => ?_) (fun cc3 => ?_)
      · skip
        replace h := bt cc3 h
        refine wl_g rfl rfl (ow_y (yh_move rfl rfl) rfl rfl (kk_wl ?_))
        refine wl_g rfl rfl (ow_y (yh_move rfl rfl) rfl rfl (kk_wl ?_))
        obtain ⟨y20, hy20, h⟩ := bd h
        obtain ⟨b20, o20, ha20⟩ := sl_addr h_list_ hy20
        subst ha20
        have hc20 := get_str h_list_ hy20
        refine wl_g rfl rfl (ow_y (yh_idx Tb (k := s7) rfl rfl rfl rfl (get_lt hy20) rfl rfl) rfl rfl (kk_wl ?_))
        refine wl_g rfl rfl (ow_y (yh_loadA0 Tb rfl rfl rfl hc20 rfl) rfl rfl (kk_wl ?_))
        refine wl_g rfl rfl (ow_y (yh_move rfl rfl) rfl rfl (kk_wl ?_))
        refine wl_g rfl rfl (ow_y (yh_cmpS rfl rfl rfl rfl) rfl rfl (kk_wl ?_))
        refine wl_u rfl (ow_y (yh_pickT rfl rfl rfl) rfl rfl (kk_wl ?_))
        refine wl_nil ?_
        refine ex_seq ?_
        refine cw_split rfl (fun cc4 => ?_) (fun cc4 => ?_)
        · skip
          replace h := bt cc4 h
          refine cw_seq ?_
          refine cw_region ?_
          refine wl_u rfl (ow_y (yh_move rfl rfl) rfl rfl (kk_wl ?_))
          refine wl_u rfl (ow_y (yh_move rfl rfl) rfl rfl (kk_wl ?_))
          refine wl_u rfl (ow_lit1 Tb rfl rfl rfl rfl rfl rfl rfl rfl rfl rfl (fun g27 => kk_chg (c' := owC strsL [g27] [.slice (some ⟨g27, 0, none⟩) 1 1] ([name] : List Str)) 0 rfl (fun w hA => own_strsL ([name] : List Str) hA rfl (by simp [maxLen])) rfl (kk_wl ?_)))
          obtain ⟨hll28, h⟩ := bd_appd h
          refine wl_u rfl (ow_appP Tb (i := 1) rfl rfl rfl rfl rfl (fun w hw => rdo (A := strsL) 0 rfl hw) rfl rfl rfl rfl hll28 (by decide) rfl rfl (fun a28 c28 F28 => kk_wl ?_))
          refine wl_u rfl (ow_y (yh_assign rfl rfl) rfl rfl (kk_wl ?_))
          refine wl_nil ?_
          refine ex_seq ?_
          refine cw_region ?_
          refine wl_u rfl (ow_y (yh_assign rfl rfl) rfl rfl (kk_wl ?_))
          refine wl_nil ?_
          obtain rfl := Option.some.inj h
          exact ex_next [0] (hn110 (a28, c28, F28) trivial) ⟨rfl, rfl, rfl, rfl, rfl, trivial⟩ (by kernel_rfl)
        · skip
          replace h := bf cc4 h
          refine cw_skip ?_
          obtain rfl := Option.some.inj h
          exact ex_next [0] (hn110 (as5, cs5, Fs5) trivial) ⟨rfl, rfl, rfl, rfl, rfl, trivial⟩ (by kernel_rfl)
      · skip
        replace h := bf cc3 h
        refine wl_n rfl rfl rfl rfl ?_
        refine wl_n rfl rfl rfl rfl ?_
        refine wl_n rfl rfl rfl rfl ?_
        refine wl_n rfl rfl rfl rfl ?_
        refine wl_n rfl rfl rfl rfl ?_
        refine wl_n rfl rfl rfl rfl ?_
        refine wl_u rfl (ow_y (yh_pickF rfl rfl rfl) rfl rfl (kk_wl ?_))
        refine wl_nil ?_
        refine ex_seq ?_
        refine cw_false rfl ?_
        refine cw_skip ?_
        obtain rfl := Option.some.inj h
        exact ex_next [0] (hn110 (as5, cs5, Fs5) trivial) ⟨rfl, rfl, rfl, rfl, rfl, trivial⟩ (by kernel_rfl)
  · skip
    replace h := bf cc1 h
    have q2 := ltb_false.1 cc1
    refine cw_exit ?_
    refine ex_then_exit ?_
    refine ex_then_exit ?_
    obtain rfl := Option.some.inj h
    have h := go_brk hk6
    refine ex_block_exit ?_
    refine ex_seq ?_
    refine cw_seq ?_
    refine cw_seq ?_
    refine cw_region ?_
    refine wl_u rfl (ow_y (yh_move rfl rfl) rfl rfl (kk_wl ?_))
    refine wl_u rfl (ow_y (yh_not rfl rfl) rfl rfl (kk_wl ?_))
    refine wl_nil ?_
    refine ex_seq ?_
    refine cw_split rfl (fun cc5 => ?_) (fun cc5 => ?_)
    · skip
      replace h := bt cc5 h
      refine cw_region ?_
      refine wl_u rfl (ow_y (yh_move rfl rfl) rfl rfl (kk_wl ?_))
      refine wl_u rfl (ow_y (yh_move rfl rfl) rfl rfl (kk_wl ?_))
      refine wl_u rfl (ow_lit1 Tb rfl rfl rfl rfl rfl rfl rfl rfl rfl rfl (fun g46 => kk_chg (c' := owC strsL [g46] [.slice (some ⟨g46, 0, none⟩) 1 1] ([name] : List Str)) 0 rfl (fun w hA => own_strsL ([name] : List Str) hA rfl (by simp [maxLen])) rfl (kk_wl ?_)))
      obtain ⟨hll47, h⟩ := bd_appd h
      refine wl_u rfl (ow_appP Tb (i := 1) rfl rfl rfl rfl rfl (fun w hw => rdo (A := strsL) 0 rfl hw) rfl rfl rfl rfl hll47 (by decide) rfl rfl (fun a47 c47 F47 => kk_wl ?_))
      refine wl_u rfl (ow_y (yh_assign rfl rfl) rfl rfl (kk_wl ?_))
      refine wl_nil ?_
      refine ex_seq ?_
      refine cw_seq ?_
      refine cw_region ?_
      refine wl_u rfl (ow_y (yh_move rfl rfl) rfl rfl (kk_wl ?_))
      refine wl_u rfl (ow_y (yh_assign rfl rfl) rfl rfl (kk_wl ?_))
      refine wl_nil ?_
      refine ex_seq ?_
      refine cw_ret ?_
      obtain rfl := Option.some.inj h
      exact ex_r1 Tb rfl (.tmp rfl) (fun wq hq => ⟨_, rfl, hq.ext, ⟨a47, c47, F47, rfl, NewC.sel [0] hq rfl⟩⟩)
    · skip
      replace h := bf cc5 h
      refine cw_skip ?_
      refine ex_seq ?_
      refine cw_seq ?_
      refine cw_region ?_
      refine wl_u rfl (ow_y (yh_move rfl rfl) rfl rfl (kk_wl ?_))
      refine wl_u rfl (ow_y (yh_assign rfl rfl) rfl rfl (kk_wl ?_))
      refine wl_nil ?_
      refine ex_seq ?_
      refine cw_ret ?_
      obtain rfl := Option.some.inj h
      exact ex_r1 Tb rfl (.tmp rfl) (fun wq hq => ⟨_, rfl, hq.ext, ⟨as5, cs5, Fs5, rfl, NewC.sel [0] hq rfl⟩⟩)

end Go.Proofs.Ytmnhnldnnniglaa
