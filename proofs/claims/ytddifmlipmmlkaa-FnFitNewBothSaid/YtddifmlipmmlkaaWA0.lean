/- Mirrors and contracts, printed by a program: what each function computes as a plain term, and that it does. -/
import Derived.Test.YtddifmlipmmlkaaR
import Derived.Test.YtddifmlipmmlkaaS
set_option linter.all false
set_option maxRecDepth 100000
namespace Go.Proofs.Ytddifmlipmmlkaa
open Go.RowKit

def m_spec_l92Timers_L7 (N : Nat) (cd : List UInt8) : Nat → Nat → (List Timer) → Int → Nat → Option (Ex (Nat × List Timer × Int × Nat) ((List Timer) × Nat))
  | 0, _, _, _, _ => none
  | n + 1, s0_c_1, s3, s5, s6 => (bif ltb ((s6 : Nat) : Int) 9 then ((m_spec_l6Rd_pick N cd s0_c_1 3).bind fun x18 => (bif eqb x18.1 0 then (bif ltb ((s3.length : Nat) : Int) 8 then some (x18.2, true)
 else (m_spec_l6Rd_pick N cd x18.2 40).bind fun x27 => some (x27.2, eqb x27.1 0))
 else (m_spec_l6Rd_pick N cd x18.2 40).bind fun x27 => some (x27.2, eqb x27.1 0)) : Option (Nat × Bool)).bind fun j111 => (bif j111.2 then (([(⟨#[97]⟩ : Str), (⟨#[98]⟩ : Str), (⟨#[99]⟩ : Str), (⟨#[100]⟩ : Str), (⟨#[101]⟩ : Str), (⟨#[102]⟩ : Str), (⟨#[103]⟩ : Str), (⟨#[104]⟩ : Str), (⟨#[105]⟩ : Str)] : List Str)[s6]?).bind fun y34 => (appd s3 ([(Timer.mk s5 y34)] : List Timer)).bind fun l38 => (m_spec_l6Rd_pick N cd j111.1 30).bind fun x41 => m_spec_l92Timers_L7 N cd n x41.2 (s3 ++ ([(Timer.mk s5 y34)] : List Timer)) (w64 (s5 + x41.1)) (s6 + 1)
 else m_spec_l92Timers_L7 N cd n j111.1 s3 s5 (s6 + 1))
 else some (Ex.brk (s0_c_1, s3, s5, s6)))

def m_spec_l92Timers (N : Nat) (cd : List UInt8) (p : Nat) : Option ((List Timer) × Nat) := (m_spec_l6Rd_pick N cd p 20).bind fun x10 => (m_spec_l92Timers_L7 N cd N x10.2 ([] : List Timer) x10.1 0).bind fun e7 => e7.go (fun r => r) fun b7 => (bif ltb 1 ((b7.2.1.length : Nat) : Int) then (m_spec_l6Rd_pick N cd b7.1 24).bind fun x48 => (bif eqb x48.1 0 then (b7.2.1[0]?).bind fun y53 => (b7.2.1[1]?).bind fun y56 => some ((b7.2.1.set 1 (Timer.mk y56.at_ y53.name)), x48.2)
 else some (b7.2.1, x48.2))
 else some (b7.2.1, b7.1))

set_option maxHeartbeats 4000000 in
theorem c_spec_l92Timers (N : Nat) (cd : List UInt8) (p : Nat) (res : (List Timer) × Nat) (h : m_spec_l92Timers N cd p = some res) (w : World) {r ccd : Nat} {acd : Option Addr} (hr : (blkC r 116 [.slice acd cd.length ccd, .int .i64 ((p : Nat) : Int)]).A w) (hcd : bytesL.rd w [r] [.slice acd cd.length ccd] cd) : Ret Try.prog 54 [.pointer (some ⟨r, 0, none⟩)] w [r] fun v w' => ∃ a1 c1 F1, v = .slice a1 res.1.length c1 ∧ NewM w w' [r] [owC timersL F1 [.slice a1 res.1.length c1] res.1, blkC r 116 [.slice acd cd.length ccd, .int .i64 ((res.2 : Nat) : Int)]] := by
  have mhcd := rd_max hcd
  unfold m_spec_l92Timers at h
  refine ret_enter Try.func54 rfl Try.ntmps54 rfl (hp_one hr (by simp [blkC])) ?_
  refine cw_seq ?_
  refine cw_region ?_
  refine wl_u rfl (ow_y (yh_assign rfl rfl) rfl rfl (kk_wl ?_))
  refine wl_nil ?_
  refine ex_seq ?_
  refine cw_seq ?_
  refine cw_region ?_
  refine wl_u rfl (ow_lit0 Tb rfl rfl rfl rfl rfl rfl (fun g7 => kk_chg (c' := owC timersL [g7] [.slice (some ⟨g7, 0, none⟩) 0 0] ([] : List Timer)) 0 rfl (fun w hA => own_timersL ([] : List Timer) hA rfl (by simp [maxLen])) rfl (kk_wl ?_)))
  refine wl_u rfl (ow_y (yh_assign rfl rfl) rfl rfl (kk_wl ?_))
  refine wl_nil ?_
  refine ex_seq ?_
  refine cw_seq ?_
  refine cw_region ?_
  refine wl_u rfl (ow_lit1 Tb rfl rfl rfl rfl rfl rfl rfl rfl rfl rfl (fun g8 => kk_chg (c' := owC strsL [g8] [.slice (some ⟨g8, 0, none⟩) 9 9] ([(⟨#[97]⟩ : Str), (⟨#[98]⟩ : Str), (⟨#[99]⟩ : Str), (⟨#[100]⟩ : Str), (⟨#[101]⟩ : Str), (⟨#[102]⟩ : Str), (⟨#[103]⟩ : Str), (⟨#[104]⟩ : Str), (⟨#[105]⟩ : Str)] : List Str)) 0 rfl (fun w hA => own_strsL ([(⟨#[97]⟩ : Str), (⟨#[98]⟩ : Str), (⟨#[99]⟩ : Str), (⟨#[100]⟩ : Str), (⟨#[101]⟩ : Str), (⟨#[102]⟩ : Str), (⟨#[103]⟩ : Str), (⟨#[104]⟩ : Str), (⟨#[105]⟩ : Str)] : List Str) hA rfl (by simp [maxLen])) rfl (kk_wl ?_)))
  refine wl_u rfl (ow_y (yh_assign rfl rfl) rfl rfl (kk_wl ?_))
  refine wl_nil ?_
  refine ex_seq ?_
  refine cw_seq ?_
  refine cw_region ?_
  refine wl_u rfl (ow_y (yh_move rfl rfl) rfl rfl (kk_wl ?_))
  obtain ⟨x10, hx10, h⟩ := bd h
  have mp10 := pick_lt hx10 (by decide)
  refine wl_u rfl (ow_cM0 2 rfl hb55 rfl rfl (fun w hw => c_spec_l6Rd_pick N _ _ _ _ hx10 w (hw.at (i := 2) rfl) (Lay.atR (i := 2) hcd rfl hw)) rfl rfl (kk_wl ?_))
  refine wl_u rfl (ow_y (yh_assign rfl rfl) rfl rfl (kk_wl ?_))
  refine wl_nil ?_
  refine ex_seq ?_
  refine cw_seq ?_
  refine cw_seq ?_
  refine cw_region ?_
  refine wl_u rfl (ow_y (yh_assign rfl rfl) rfl rfl (kk_wl ?_))
  refine wl_nil ?_
  refine ex_seq ?_
  refine cw_block ?_
  obtain ⟨e7, he7, hk7⟩ := bd h
  clear h
  refine cw_loopG (σ := Nat × Nat × (List Timer) × Int × Nat × (Option Addr) × Nat × (List Nat)) (fun s => m_spec_l92Timers_L7 N cd s.1 s.2.1 s.2.2.1 s.2.2.2.1 s.2.2.2.2.1 = some e7) (fun s => [(0, .pointer (some ⟨r, 0, none⟩)), (3, .slice s.2.2.2.2.2.1 s.2.2.1.length s.2.2.2.2.2.2.1), (4, .slice (some ⟨g8, 0, none⟩) 9 9), (5, .int .i64 s.2.2.2.1), (6, .int .i64 ((s.2.2.2.2.1 : Nat) : Int))]) (fun s => [blkC r 116 [.slice acd cd.length ccd, .int .i64 ((s.2.1 : Nat) : Int)], owC timersL s.2.2.2.2.2.2.2 [.slice s.2.2.2.2.2.1 s.2.2.1.length s.2.2.2.2.2.2.1] s.2.2.1, owC strsL [g8] [.slice (some ⟨g8, 0, none⟩) 9 9] ([(⟨#[97]⟩ : Str), (⟨#[98]⟩ : Str), (⟨#[99]⟩ : Str), (⟨#[100]⟩ : Str), (⟨#[101]⟩ : Str), (⟨#[102]⟩ : Str), (⟨#[103]⟩ : Str), (⟨#[104]⟩ : Str), (⟨#[105]⟩ : Str)] : List Str)]) (fun s => s.1) (N, x10.2, ([] : List Timer), x10.1, 0, (some ⟨g7, 0, none⟩), 0, [g7]) [0, 2, 1] he7 ⟨rfl, rfl, rfl, rfl, rfl, trivial⟩ rfl (fun KL s he7 hn7 => ?_)
  obtain ⟨n7, s0_c_1, s3, s5, s6, as3, cs3, Fs3⟩ := s
  simp only at he7 hn7 ⊢
  rcases n7 with _ | n7
  · exact nosome he7
  have h := he7; rw [m_spec_l92Timers_L7] at h
  refine cw_seq ?_
  refine cw_seq ?_
  refine cw_region ?_
  refine wl_u rfl (ow_y (yh_move rfl rfl) rfl rfl (kk_wl ?_))
  refine wl_u rfl (ow_y (yh_move rfl rfl) rfl rfl (kk_wl ?_))
  refine wl_u rfl (ow_y (yh_lenS Tb rfl rfl rfl rfl) rfl rfl (kk_wl ?_))
  refine wl_u rfl (ow_y (yh_cmpI rfl rfl rfl rfl) rfl rfl (kk_wl ?_))
  refine wl_nil ?_
  refine ex_seq ?_
  refine cw_split rfl (fun c1 => ?_) (fun c1 => ?_)
  · skip
    replace h := bt c1 h
    have q1 := ltb_true.1 c1
    refine cw_skip ?_
    refine ex_seq ?_
    refine cw_seq ?_
    refine cw_block ?_
    obtain ⟨j111, he111, hk111⟩ := bd h
    clear h
    refine cw_cut (σ := Unit) (fun s => True) (fun s => [(0, .pointer (some ⟨r, 0, none⟩)), (3, .slice as3 s3.length cs3), (4, .slice (some ⟨g8, 0, none⟩) 9 9), (5, .int .i64 s5), (6, .int .i64 ((s6 : Nat) : Int)), (29, .bool j111.2)]) (fun s => [blkC r 116 [.slice acd cd.length ccd, .int .i64 ((j111.1 : Nat) : Int)], owC timersL Fs3 [.slice as3 s3.length cs3] s3, owC strsL [g8] [.slice (some ⟨g8, 0, none⟩) 9 9] ([(⟨#[97]⟩ : Str), (⟨#[98]⟩ : Str), (⟨#[99]⟩ : Str), (⟨#[100]⟩ : Str), (⟨#[101]⟩ : Str), (⟨#[102]⟩ : Str), (⟨#[103]⟩ : Str), (⟨#[104]⟩ : Str), (⟨#[105]⟩ : Str)] : List Str)]) (fun s hI => ?_) (fun KL hn111 => ?_)
    · skip
      have h := hk111
      refine cw_split rfl (fun c2 => ?_) (fun c2 => ?_)
      · skip
        replace h := bt c2 h
        refine cw_seq ?_
        refine cw_region ?_
        refine wl_u rfl (ow_y (yh_move rfl rfl) rfl rfl (kk_wl ?_))
        refine wl_u rfl (ow_y (yh_move rfl rfl) rfl rfl (kk_wl ?_))
        refine wl_u rfl (ow_y (yh_move rfl rfl) rfl rfl (kk_wl ?_))
        refine wl_u rfl (ow_y (yh_move rfl rfl) rfl rfl (kk_wl ?_))
        obtain ⟨y34, hy34, h⟩ := bd h
        refine wl_u rfl (ow_y (yh_idx Tb (k := s6) rfl rfl rfl rfl (get_lt hy34) rfl rfl) rfl rfl (kk_wl ?_))
        refine wl_u rfl (ow_y (yh_loadO0 Tb 2 rfl rfl rfl rfl rfl hy34 rfl) rfl rfl (kk_wl ?_))
        refine wl_u rfl (ow_y (yh_buildA rfl rfl (by kernel_rfl)) rfl rfl (kk_wl ?_))
        refine wl_u rfl (ow_litA Tb rfl rfl rfl rfl rfl rfl (by decide) rfl rfl (fun g37 => kk_chg (c' := owC timersL [g37] [.slice (some ⟨g37, 0, none⟩) 1 1] ([(Timer.mk s5 y34)] : List Timer)) 0 rfl (fun w hA => own_timersL ([(Timer.mk s5 y34)] : List Timer) hA rfl (by simp [maxLen])) rfl (kk_wl ?_)))
        obtain ⟨hll38, h⟩ := bd_appd h
        refine wl_u rfl (ow_appP Tb (i := 2) rfl rfl rfl rfl rfl (fun w hw => rdo (A := timersL) 0 rfl hw) rfl rfl rfl rfl hll38 (by decide) rfl rfl (fun a38 c38 F38 => kk_wl ?_))
        refine wl_u rfl (ow_y (yh_assign rfl rfl) rfl rfl (kk_wl ?_))
        refine wl_nil ?_
        refine ex_seq ?_
        refine cw_region ?_
        refine wl_u rfl (ow_y (yh_move rfl rfl) rfl rfl (kk_wl ?_))
        refine wl_u rfl (ow_y (yh_move rfl rfl) rfl rfl (kk_wl ?_))
        obtain ⟨x41, hx41, h⟩ := bd h
        have mp41 := pick_lt hx41 (by decide)
        refine wl_u rfl (ow_cM0 2 rfl hb55 rfl rfl (fun w hw => c_spec_l6Rd_pick N _ _ _ _ hx41 w (hw.at (i := 2) rfl) (Lay.atR (i := 2) hcd rfl hw)) rfl rfl (kk_wl ?_))
        refine wl_u rfl (ow_y (yh_arW rfl rfl rfl rfl) rfl rfl (kk_wl ?_))
        refine wl_u rfl (ow_y (yh_assign rfl rfl) rfl rfl (kk_wl ?_))
        refine wl_nil ?_
        refine ex_block_normal ?_
        refine ex_seq ?_
        refine cw_region ?_
        refine wl_u rfl (ow_y (yh_move rfl rfl) rfl rfl (kk_wl ?_))
        refine wl_u rfl (ow_y (yh_arI rfl rfl rfl rfl (by omega)) rfl rfl (kk_wl ?_))
        refine wl_u rfl (ow_y (yh_assign rfl rfl) rfl rfl (kk_wl ?_))
        refine wl_nil ?_
        exact ex_next [0, 1, 3] (hn7 (n7, x41.2, (s3 ++ ([(Timer.mk s5 y34)] : List Timer)), w64 (s5 + x41.1), s6 + 1, a38, c38, F38) (Nat.lt_succ_self _) h) ⟨rfl, rfl, rfl, rfl, rfl, trivial⟩ rfl
      · skip
        replace h := bf c2 h
        refine cw_skip ?_
        refine ex_block_normal ?_
        refine ex_seq ?_
        refine cw_region ?_
        refine wl_u rfl (ow_y (yh_move rfl rfl) rfl rfl (kk_wl ?_))
        refine wl_u rfl (ow_y (yh_arI rfl rfl rfl rfl (by omega)) rfl rfl (kk_wl ?_))
        refine wl_u rfl (ow_y (yh_assign rfl rfl) rfl rfl (kk_wl ?_))
        refine wl_nil ?_
        exact ex_next [0, 1, 2] (hn7 (n7, j111.1, s3, s5, s6 + 1, as3, cs3, Fs3) (Nat.lt_succ_self _) h) ⟨rfl, rfl, rfl, rfl, rfl, trivial⟩ rfl
    · skip
      have h := he111
      refine cw_region ?_
      refine wl_u rfl (ow_y (yh_move rfl rfl) rfl rfl (kk_wl ?_))
      obtain ⟨x18, hx18, h⟩ := bd h
      have mp18 := pick_lt hx18 (by decide)
      refine wl_u rfl (ow_cM0 0 rfl hb55 rfl rfl (fun w hw => c_spec_l6Rd_pick N _ _ _ _ hx18 w (hw.at (i := 0) rfl) (Lay.atR (i := 0) hcd rfl hw)) rfl rfl (kk_wl ?_))
      refine wl_u rfl (ow_y (yh_cmpI rfl rfl rfl rfl) rfl rfl (kk_wl ?_))
      refine wl_u rfl (ow_y (yh_move rfl rfl) rfl rfl (kk_wl ?_))
      refine wl_s rfl rfl (fun c3 => ?_) (fun c3 => ?_)
      · skip
        replace h := bt c3 h
        have q2 := eqb_true.1 c3
        refine wl_g rfl rfl (ow_y (yh_move rfl rfl) rfl rfl (kk_wl ?_))
        refine wl_know (s3.length ≤ 9223372036854775807) (fun w hw => own_max 1 rfl hw) (fun mo22 => ?_)
        refine wl_g rfl rfl (ow_y (yh_lenS Tb rfl rfl rfl rfl) rfl rfl (kk_wl ?_))
        refine wl_g rfl rfl (ow_y (yh_cmpI rfl rfl rfl rfl) rfl rfl (kk_wl ?_))
        refine wl_u rfl (ow_y (yh_pickT rfl rfl rfl) rfl rfl (kk_wl ?_))
        refine wl_u rfl (ow_y (yh_move rfl rfl) rfl rfl (kk_wl ?_))
        refine wl_s rfl rfl (fun c4 => ?_) (fun c4 => ?_)
        · skip
          replace h := bt c4 h
          have q3 := ltb_true.1 c4
          refine wl_n rfl rfl rfl rfl ?_
          refine wl_n rfl rfl rfl rfl ?_
          refine wl_n rfl rfl rfl rfl ?_
          refine wl_u rfl (ow_y (yh_pickT rfl rfl rfl) rfl rfl (kk_wl ?_))
          refine wl_nil ?_
          obtain rfl := Option.some.inj h
          exact ex_next [0, 1, 2] (hn111 () trivial) ⟨rfl, rfl, rfl, rfl, rfl, rfl, trivial⟩ rfl
        · skip
          replace h := bf c4 h
          have q4 := ltb_false.1 c4
          refine wl_g rfl rfl (ow_y (yh_move rfl rfl) rfl rfl (kk_wl ?_))
          obtain ⟨x27, hx27, h⟩ := bd h
          have mp27 := pick_lt hx27 (by decide)
          refine wl_g rfl rfl (ow_cM0 0 rfl hb55 rfl rfl (fun w hw => c_spec_l6Rd_pick N _ _ _ _ hx27 w (hw.at (i := 0) rfl) (Lay.atR (i := 0) hcd rfl hw)) rfl rfl (kk_wl ?_))
          refine wl_g rfl rfl (ow_y (yh_cmpI rfl rfl rfl rfl) rfl rfl (kk_wl ?_))
          refine wl_u rfl (ow_y (yh_pickF rfl rfl rfl) rfl rfl (kk_wl ?_))
          refine wl_nil ?_
          obtain rfl := Option.some.inj h
          exact ex_next [0, 1, 2] (hn111 () trivial) ⟨rfl, rfl, rfl, rfl, rfl, rfl, trivial⟩ rfl
      · skip
        replace h := bf c3 h
        have q5 := eqb_false.1 c3
        refine wl_n rfl rfl rfl rfl ?_
        refine wl_n rfl rfl rfl rfl ?_
        refine wl_n rfl rfl rfl rfl ?_
        refine wl_u rfl (ow_y (yh_pickF rfl rfl rfl) rfl rfl (kk_wl ?_))
        refine wl_u rfl (ow_y (yh_move rfl rfl) rfl rfl (kk_wl ?_))
        refine wl_s rfl rfl nofun (fun _ => ?_)
        refine wl_g rfl rfl (ow_y (yh_move rfl rfl) rfl rfl (kk_wl ?_))
        obtain ⟨x27, hx27, h⟩ := bd h
        have mp27 := pick_lt hx27 (by decide)
        refine wl_g rfl rfl (ow_cM0 0 rfl hb55 rfl rfl (fun w hw => c_spec_l6Rd_pick N _ _ _ _ hx27 w (hw.at (i := 0) rfl) (Lay.atR (i := 0) hcd rfl hw)) rfl rfl (kk_wl ?_))
        refine wl_g rfl rfl (ow_y (yh_cmpI rfl rfl rfl rfl) rfl rfl (kk_wl ?_))
        refine wl_u rfl (ow_y (yh_pickF rfl rfl rfl) rfl rfl (kk_wl ?_))
        refine wl_nil ?_
        obtain rfl := Option.some.inj h
        exact ex_next [0, 1, 2] (hn111 () trivial) ⟨rfl, rfl, rfl, rfl, rfl, rfl, trivial⟩ rfl
  · skip
    replace h := bf c1 h
    have q6 := ltb_false.1 c1
    refine cw_exit ?_
    refine ex_then_exit ?_
    refine ex_then_exit ?_
    obtain rfl := Option.some.inj h
    have h := go_brk hk7
    refine ex_block_exit ?_
    refine ex_seq ?_
    refine cw_seq ?_
    refine cw_seq ?_
    refine cw_region ?_
    refine wl_u rfl (ow_y (yh_move rfl rfl) rfl rfl (kk_wl ?_))
    refine wl_know (s3.length ≤ 9223372036854775807) (fun w hw => own_max 1 rfl hw) (fun mo44 => ?_)
    refine wl_u rfl (ow_y (yh_lenS Tb rfl rfl rfl rfl) rfl rfl (kk_wl ?_))
    refine wl_u rfl (ow_y (yh_cmpI rfl rfl rfl rfl) rfl rfl (kk_wl ?_))
    refine wl_u rfl (ow_y (yh_move rfl rfl) rfl rfl (kk_wl ?_))
    refine wl_s rfl rfl (fun c5 => ?_) (fun c5 => ?_)
    · skip
      replace h := bt c5 h
      have q7 := ltb_true.1 c5
      refine wl_g rfl rfl (ow_y (yh_move rfl rfl) rfl rfl (kk_wl ?_))
      obtain ⟨x48, hx48, h⟩ := bd h
      have mp48 := pick_lt hx48 (by decide)
      refine wl_g rfl rfl (ow_cM0 0 rfl hb55 rfl rfl (fun w hw => c_spec_l6Rd_pick N _ _ _ _ hx48 w (hw.at (i := 0) rfl) (Lay.atR (i := 0) hcd rfl hw)) rfl rfl (kk_wl ?_))
      refine wl_g rfl rfl (ow_y (yh_cmpI rfl rfl rfl rfl) rfl rfl (kk_wl ?_))
      refine wl_u rfl (ow_y (yh_pickT rfl rfl rfl) rfl rfl (kk_wl ?_))
      refine wl_nil ?_
      refine ex_seq ?_
      refine cw_split rfl (fun c6 => ?_) (fun c6 => ?_)
      · skip
        replace h := bt c6 h
        have q8 := eqb_true.1 c6
        refine cw_region ?_
        refine wl_u rfl (ow_y (yh_move rfl rfl) rfl rfl (kk_wl ?_))
        refine wl_u rfl (ow_y (yh_move rfl rfl) rfl rfl (kk_wl ?_))
        obtain ⟨y53, hy53, h⟩ := bd h
        refine wl_ex (fun g => as3 = some ⟨g, 0, none⟩) (fun w hw => own_addrK 1 rfl hy53 hw) (fun g53 hg53 => ?_)
        subst hg53
        refine wl_u rfl (ow_y (yh_idx Tb (k := 0) rfl rfl rfl rfl (get_lt hy53) rfl rfl) rfl rfl (kk_wl ?_))
        refine wl_u rfl (ow_y (yh_field Tb rfl rfl rfl) rfl rfl (kk_wl ?_))
        refine wl_u rfl (ow_y (yh_loadOF Tb 1 1 rfl rfl rfl rfl rfl hy53 rfl) rfl rfl (kk_wl ?_))
        obtain ⟨y56, hy56, h⟩ := bd h
        refine wl_u rfl (ow_y (yh_idx Tb (k := 1) rfl rfl rfl rfl (get_lt hy56) rfl rfl) rfl rfl (kk_wl ?_))
        refine wl_u rfl (ow_y (yh_field Tb rfl rfl rfl) rfl rfl (kk_wl ?_))
        refine wl_u rfl (ow_storeF2 Tb 1 1 (u := (Timer.mk y56.at_ y53.name)) rfl rfl rfl rfl rfl rfl (by decide) hy56 rfl rfl (kk_wl ?_))
        refine wl_nil ?_
        refine ex_seq ?_
        refine cw_seq ?_
        refine cw_region ?_
        refine wl_u rfl (ow_y (yh_move rfl rfl) rfl rfl (kk_wl ?_))
        refine wl_u rfl (ow_y (yh_assign rfl rfl) rfl rfl (kk_wl ?_))
        refine wl_nil ?_
        refine ex_seq ?_
        refine cw_ret ?_
        refine ex_know (s3.length = (s3.set 1 (Timer.mk y56.at_ y53.name)).length) (fun w hw => own_lenK 0 rfl hw) (fun hn0_ => ?_)
        obtain rfl := Option.some.inj h
        exact ex_r1 Tb rfl (.tmp rfl) (fun wq hq => ⟨_, rfl, hq.ext, ⟨(some ⟨g53, 0, none⟩), cs3, Fs3, (by simp only [hn0_]), (by simp only [← hn0_]; exact NewM.sel [0, 1] hq rfl)⟩⟩)
      · skip
        replace h := bf c6 h
        have q9 := eqb_false.1 c6
        refine cw_skip ?_
        refine ex_seq ?_
        refine cw_seq ?_
        refine cw_region ?_
        refine wl_u rfl (ow_y (yh_move rfl rfl) rfl rfl (kk_wl ?_))
        refine wl_u rfl (ow_y (yh_assign rfl rfl) rfl rfl (kk_wl ?_))
        refine wl_nil ?_
        refine ex_seq ?_
        refine cw_ret ?_
        obtain rfl := Option.some.inj h
        exact ex_r1 Tb rfl (.tmp rfl) (fun wq hq => ⟨_, rfl, hq.ext, ⟨as3, cs3, Fs3, rfl, NewM.sel [1, 0] hq rfl⟩⟩)
    · skip
      replace h := bf c5 h
      have q10 := ltb_false.1 c5
      refine wl_n rfl rfl rfl rfl ?_
      refine wl_n rfl rfl rfl rfl ?_
      refine wl_n rfl rfl rfl rfl ?_
      refine wl_u rfl (ow_y (yh_pickF rfl rfl rfl) rfl rfl (kk_wl ?_))
      refine wl_nil ?_
      refine ex_seq ?_
      refine cw_false rfl ?_
      refine cw_skip ?_
      refine ex_seq ?_
      refine cw_seq ?_
      refine cw_region ?_
      refine wl_u rfl (ow_y (yh_move rfl rfl) rfl rfl (kk_wl ?_))
      refine wl_u rfl (ow_y (yh_assign rfl rfl) rfl rfl (kk_wl ?_))
      refine wl_nil ?_
      refine ex_seq ?_
      refine cw_ret ?_
      obtain rfl := Option.some.inj h
      exact ex_r1 Tb rfl (.tmp rfl) (fun wq hq => ⟨_, rfl, hq.ext, ⟨as3, cs3, Fs3, rfl, NewM.sel [1, 0] hq rfl⟩⟩)

def m_spec_DrawTimersValid (N : Nat) (code : List UInt8) : Option (List Timer) := (m_spec_l92Timers N (code.take 2000) 0).bind fun x8 => ((bif ltb 0 ((x8.1.length : Nat) : Int) then (m_spec_l6Rd_pick N (code.take 2000) x8.2 12).bind fun x14 => some (x14.2, eqb x14.1 0)
 else some (x8.2, false)) : Option (Nat × Bool)).bind fun j105 => (bif j105.2 then (m_spec_l6Rd_pick N (code.take 2000) j105.1 ((x8.1.length : Nat) : Int)).bind fun x21 => (m_spec_l6Rd_pick N (code.take 2000) x21.2 3).bind fun x24 => (geti ([(-1), 9999, 10000] : List Int) x24.1).bind fun y25 => (geti x8.1 x21.1).bind fun y27 => some (x8.1.set x21.1.toNat (Timer.mk y25 y27.name))
 else some x8.1)

set_option maxHeartbeats 4000000 in
theorem c_spec_DrawTimersValid (N : Nat) (code : List UInt8) (res : List Timer) (h : m_spec_DrawTimersValid N code = some res) (w : World) {a_code : Option Addr} {c_code : Nat} (h_code : bytesL.rd w [] [.slice a_code code.length c_code] code) : Ret Try.prog 14 [.slice a_code code.length c_code] w [] fun v w' => ∃ a1 c1 F1, v = .slice a1 res.length c1 ∧ NewC w w' [owC timersL F1 [.slice a1 res.length c1] res] := by
  have mh_code := rd_max h_code
  unfold m_spec_DrawTimersValid at h
  refine ret_enter Try.func14 rfl Try.ntmps14 rfl (Hp.refl w _) ?_
  refine cw_seq ?_
  refine cw_region ?_
  refine wl_u rfl (ow_y (yh_assign rfl rfl) rfl rfl (kk_wl ?_))
  refine wl_nil ?_
  refine ex_seq ?_
  refine cw_seq ?_
  refine cw_region ?_
  refine wl_u rfl (ow_y (yh_move rfl rfl) rfl rfl (kk_wl ?_))
  have hf6 := take_fact h_code 2000
  refine wl_u rfl (ow_open rfl rfl (fun w hw => Lay.at_ h_code hw) rfl rfl (fun g6 => kk_wl ?_))
  refine wl_u rfl (ow_y (yh_assign rfl rfl) rfl rfl (kk_wl ?_))
  refine wl_nil ?_
  refine ex_seq ?_
  refine cw_seq ?_
  refine cw_region ?_
  refine wl_u rfl (ow_y (yh_move rfl rfl) rfl rfl (kk_wl ?_))
  obtain ⟨x8, hx8, h⟩ := bd h
  refine wl_u rfl (ow_cM1 0 rfl hb54 rfl rfl (fun w hw => c_spec_l92Timers N _ _ _ hx8 w (hw.at (i := 0) rfl) (Lay.atR (i := 0) hf6 rfl hw)) rfl rfl (fun a8 c8 F8 => kk_wl ?_))
  refine wl_u rfl (ow_y (yh_assign rfl rfl) rfl rfl (kk_wl ?_))
  refine wl_nil ?_
  refine ex_seq ?_
  refine cw_seq ?_
  obtain ⟨j105, he105, hk105⟩ := bd h
  clear h
  refine cw_cut (σ := Unit) (fun s => True) (fun s => [(3, .pointer (some ⟨g6, 0, none⟩)), (4, .slice a8 x8.1.length c8), (16, .bool j105.2)]) (fun s => [blkC g6 116 [.slice a_code ((code.take 2000).length) c_code, .int .i64 ((j105.1 : Nat) : Int)], owC timersL F8 [.slice a8 x8.1.length c8] x8.1]) (fun s hI => ?_) (fun KL hn105 => ?_)
  · skip
    have h := hk105
    refine cw_split rfl (fun c1 => ?_) (fun c1 => ?_)
    · skip
      replace h := bt c1 h
      refine cw_region ?_
      refine wl_u rfl (ow_y (yh_move rfl rfl) rfl rfl (kk_wl ?_))
      refine wl_u rfl (ow_y (yh_move rfl rfl) rfl rfl (kk_wl ?_))
      refine wl_u rfl (ow_y (yh_move rfl rfl) rfl rfl (kk_wl ?_))
      refine wl_know (x8.1.length ≤ 9223372036854775807) (fun w hw => own_max 1 rfl hw) (fun mo20 => ?_)
      refine wl_u rfl (ow_y (yh_lenS Tb rfl rfl rfl rfl) rfl rfl (kk_wl ?_))
      obtain ⟨x21, hx21, h⟩ := bd h
      refine wl_u rfl (ow_cM0 0 rfl hb55 rfl rfl (fun w hw => c_spec_l6Rd_pick N _ _ _ _ hx21 w (hw.at (i := 0) rfl) (Lay.atR (i := 0) hf6 rfl hw)) rfl rfl (kk_wl ?_))
      refine wl_u rfl (ow_lit1 Tb rfl rfl rfl rfl rfl rfl rfl rfl rfl rfl (fun g22 => kk_chg (c' := owC intsL [g22] [.slice (some ⟨g22, 0, none⟩) 3 3] ([(-1), 9999, 10000] : List Int)) 0 rfl (fun w hA => own_intsL ([(-1), 9999, 10000] : List Int) hA rfl (by simp [maxLen])) rfl (kk_wl ?_)))
      refine wl_u rfl (ow_y (yh_move rfl rfl) rfl rfl (kk_wl ?_))
      obtain ⟨x24, hx24, h⟩ := bd h
      have mp24 := pick_lt hx24 (by decide)
      refine wl_u rfl (ow_cM0 1 rfl hb55 rfl rfl (fun w hw => c_spec_l6Rd_pick N _ _ _ _ hx24 w (hw.at (i := 1) rfl) (Lay.atR (i := 1) hf6 rfl hw)) rfl rfl (kk_wl ?_))
      obtain ⟨y25, zy25, h⟩ := bd h
      obtain ⟨iy25, hy25⟩ := geti_some zy25
      refine wl_u rfl (ow_y (yh_idx Tb (k := x24.1.toNat) rfl rfl rfl iy25 (get_lt hy25) rfl rfl) rfl rfl (kk_wl ?_))
      refine wl_u rfl (ow_y (yh_loadO0 Tb 1 rfl rfl rfl rfl rfl hy25 rfl) rfl rfl (kk_wl ?_))
      obtain ⟨y27, zy27, h⟩ := bd h
      obtain ⟨iy27, hy27⟩ := geti_some zy27
      refine wl_ex (fun g => a8 = some ⟨g, 0, none⟩) (fun w hw => own_addrK 2 rfl hy27 hw) (fun g27 hg27 => ?_)
      subst hg27
      refine wl_u rfl (ow_y (yh_idx Tb (k := x21.1.toNat) rfl rfl rfl iy27 (get_lt hy27) rfl rfl) rfl rfl (kk_wl ?_))
      refine wl_u rfl (ow_y (yh_field Tb rfl rfl rfl) rfl rfl (kk_wl ?_))
      refine wl_u rfl (ow_storeF2 Tb 2 0 (u := (Timer.mk y25 y27.name)) rfl rfl rfl rfl rfl rfl (by decide) hy27 rfl rfl (kk_wl ?_))
      refine wl_nil ?_
      refine ex_seq ?_
      refine cw_seq ?_
      refine cw_region ?_
      refine wl_u rfl (ow_y (yh_move rfl rfl) rfl rfl (kk_wl ?_))
      refine wl_u rfl (ow_y (yh_assign rfl rfl) rfl rfl (kk_wl ?_))
      refine wl_nil ?_
      refine ex_seq ?_
      refine cw_ret ?_
      refine ex_know (x8.1.length = (x8.1.set x21.1.toNat (Timer.mk y25 y27.name)).length) (fun w hw => own_lenK 0 rfl hw) (fun hn0_ => ?_)
      obtain rfl := Option.some.inj h
      exact ex_r1 Tb rfl (.tmp rfl) (fun wq hq => ⟨_, rfl, hq.ext, ⟨(some ⟨g27, 0, none⟩), c8, F8, (by simp only [hn0_]), (by simp only [← hn0_]; exact NewC.sel [0] hq rfl)⟩⟩)
    · skip
      replace h := bf c1 h
      refine cw_skip ?_
      refine ex_seq ?_
      refine cw_seq ?_
      refine cw_region ?_
      refine wl_u rfl (ow_y (yh_move rfl rfl) rfl rfl (kk_wl ?_))
      refine wl_u rfl (ow_y (yh_assign rfl rfl) rfl rfl (kk_wl ?_))
      refine wl_nil ?_
      refine ex_seq ?_
      refine cw_ret ?_
      obtain rfl := Option.some.inj h
      exact ex_r1 Tb rfl (.tmp rfl) (fun wq hq => ⟨_, rfl, hq.ext, ⟨a8, c8, F8, rfl, NewC.sel [1] hq rfl⟩⟩)
  · skip
    have h := he105
    refine cw_region ?_
    refine wl_u rfl (ow_y (yh_move rfl rfl) rfl rfl (kk_wl ?_))
    refine wl_know (x8.1.length ≤ 9223372036854775807) (fun w hw => own_max 0 rfl hw) (fun mo10 => ?_)
    refine wl_u rfl (ow_y (yh_lenS Tb rfl rfl rfl rfl) rfl rfl (kk_wl ?_))
    refine wl_u rfl (ow_y (yh_cmpI rfl rfl rfl rfl) rfl rfl (kk_wl ?_))
    refine wl_u rfl (ow_y (yh_move rfl rfl) rfl rfl (kk_wl ?_))
    refine wl_s rfl rfl (fun c2 => ?_) (fun c2 => ?_)
    · skip
      replace h := bt c2 h
      have q1 := ltb_true.1 c2
      refine wl_g rfl rfl (ow_y (yh_move rfl rfl) rfl rfl (kk_wl ?_))
      obtain ⟨x14, hx14, h⟩ := bd h
      have mp14 := pick_lt hx14 (by decide)
      refine wl_g rfl rfl (ow_cM0 1 rfl hb55 rfl rfl (fun w hw => c_spec_l6Rd_pick N _ _ _ _ hx14 w (hw.at (i := 1) rfl) (Lay.atR (i := 1) hf6 rfl hw)) rfl rfl (kk_wl ?_))
      refine wl_g rfl rfl (ow_y (yh_cmpI rfl rfl rfl rfl) rfl rfl (kk_wl ?_))
      refine wl_u rfl (ow_y (yh_pickT rfl rfl rfl) rfl rfl (kk_wl ?_))
      refine wl_nil ?_
      obtain rfl := Option.some.inj h
      exact ex_next [0, 1] (hn105 () trivial) ⟨rfl, rfl, rfl, trivial⟩ rfl
    · skip
      replace h := bf c2 h
      have q2 := ltb_false.1 c2
      refine wl_n rfl rfl rfl rfl ?_
      refine wl_n rfl rfl rfl rfl ?_
      refine wl_n rfl rfl rfl rfl ?_
      refine wl_u rfl (ow_y (yh_pickF rfl rfl rfl) rfl rfl (kk_wl ?_))
      refine wl_nil ?_
      obtain rfl := Option.some.inj h
      exact ex_next [1, 0] (hn105 () trivial) ⟨rfl, rfl, rfl, trivial⟩ rfl

def m_impl_isTime (N : Nat) (t : Int) : Option (Bool) := (bif leb 0 t then some (leb t 9999)
 else some false)

set_option maxHeartbeats 4000000 in
theorem c_impl_isTime (N : Nat) (t : Int) (res : Bool) (h : m_impl_isTime N t = some res) (w : World) : Ret Try.prog 65 [.int .i64 t] w [] fun v w' => v = .bool res := by
  unfold m_impl_isTime at h
  refine ret_enter Try.func65 rfl Try.ntmps65 rfl (Hp.refl w _) ?_
  refine cw_seq ?_
  refine cw_region ?_
  refine wl_u rfl (ow_y (yh_assign rfl rfl) rfl rfl (kk_wl ?_))
  refine wl_nil ?_
  refine ex_seq ?_
  refine cw_seq ?_
  refine cw_region ?_
  refine wl_u rfl (ow_y (yh_move rfl rfl) rfl rfl (kk_wl ?_))
  refine wl_u rfl (ow_y (yh_cmpI rfl rfl rfl rfl) rfl rfl (kk_wl ?_))
  refine wl_u rfl (ow_y (yh_move rfl rfl) rfl rfl (kk_wl ?_))
  refine wl_s rfl rfl (fun c1 => ?_) (fun c1 => ?_)
  · skip
    replace h := bt c1 h
    have q1 := leb_true.1 c1
    refine wl_g rfl rfl (ow_y (yh_move rfl rfl) rfl rfl (kk_wl ?_))
    refine wl_g rfl rfl (ow_y (yh_cmpI rfl rfl rfl rfl) rfl rfl (kk_wl ?_))
    refine wl_u rfl (ow_y (yh_pickT rfl rfl rfl) rfl rfl (kk_wl ?_))
    refine wl_u rfl (ow_y (yh_assign rfl rfl) rfl rfl (kk_wl ?_))
    refine wl_nil ?_
    refine ex_seq ?_
    refine cw_ret ?_
    obtain rfl := Option.some.inj h
    exact ex_r1 Tb rfl (.tmp rfl) (fun wq hq => ⟨_, rfl, hq.ext, rfl⟩)
  · skip
    replace h := bf c1 h
    have q2 := leb_false.1 c1
    refine wl_n rfl rfl rfl rfl ?_
    refine wl_n rfl rfl rfl rfl ?_
    refine wl_u rfl (ow_y (yh_pickF rfl rfl rfl) rfl rfl (kk_wl ?_))
    refine wl_u rfl (ow_y (yh_assign rfl rfl) rfl rfl (kk_wl ?_))
    refine wl_nil ?_
    refine ex_seq ?_
    refine cw_ret ?_
    obtain rfl := Option.some.inj h
    exact ex_r1 Tb rfl (.tmp rfl) (fun wq hq => ⟨_, rfl, hq.ext, rfl⟩)

def m_impl_NameValid_L8 (N : Nat) (s_ : Str) : Nat → Nat → Option (Ex (Nat) (Bool))
  | 0, _ => none
  | n + 1, s14 => (bif ltb ((s14 : Nat) : Int) ((s_.size : Nat) : Int) then (bget s_ s14).bind fun y19 => (bif ltb ((y19 : Nat) : Int) 97 then some (Ex.ret false)
 else (bget s_ s14).bind fun y24 => (bif ltb 122 ((y24 : Nat) : Int) then some (Ex.ret false)
 else m_impl_NameValid_L8 N s_ n (s14 + 1)))
 else some (Ex.brk (s14)))

def m_impl_NameValid (N : Nat) (s_ : Str) : Option (Bool) := (ssz s_).bind fun z5 => (bif ltb ((s_.size : Nat) : Int) 1 then some false
 else (bif ltb 5 ((s_.size : Nat) : Int) then some false
 else (m_impl_NameValid_L8 N s_ N 0).bind fun e8 => e8.go (fun r => r) fun b8 => some true))

set_option maxHeartbeats 4000000 in
theorem c_impl_NameValid (N : Nat) (s_ : Str) (res : Bool) (h : m_impl_NameValid N s_ = some res) (w : World) : Ret Try.prog 93 [.string s_] w [] fun v w' => v = .bool res := by
  unfold m_impl_NameValid at h
  refine ret_enter Try.func93 rfl Try.ntmps93 rfl (Hp.refl w _) ?_
  refine cw_seq ?_
  refine cw_region ?_
  refine wl_u rfl (ow_y (yh_assign rfl rfl) rfl rfl (kk_wl ?_))
  refine wl_nil ?_
  refine ex_seq ?_
  refine cw_seq ?_
  refine cw_seq ?_
  refine cw_region ?_
  refine wl_u rfl (ow_y (yh_move rfl rfl) rfl rfl (kk_wl ?_))
  obtain ⟨z5, hz5, h⟩ := bd h
  have mz5 := ssz_some hz5
  refine wl_u rfl (ow_y (yh_lenT Tb rfl rfl rfl rfl) rfl rfl (kk_wl ?_))
  refine wl_u rfl (ow_y (yh_cmpI rfl rfl rfl rfl) rfl rfl (kk_wl ?_))
  refine wl_u rfl (ow_y (yh_move rfl rfl) rfl rfl (kk_wl ?_))
  refine wl_s rfl rfl (fun c1 => ?_) (fun c1 => ?_)
  · skip
    replace h := bt c1 h
    have q1 := ltb_true.1 c1
    refine wl_n rfl rfl rfl rfl ?_
    refine wl_n rfl rfl rfl rfl ?_
    refine wl_n rfl rfl rfl rfl ?_
    refine wl_u rfl (ow_y (yh_pickT rfl rfl rfl) rfl rfl (kk_wl ?_))
    refine wl_nil ?_
    refine ex_seq ?_
    refine cw_true rfl ?_
    refine cw_seq ?_
    refine cw_region ?_
    refine wl_u rfl (ow_y (yh_assign rfl rfl) rfl rfl (kk_wl ?_))
    refine wl_nil ?_
    refine ex_seq ?_
    refine cw_ret ?_
    refine ex_then_ret ?_
    obtain rfl := Option.some.inj h
    exact ex_r1 Tb rfl (.tmp rfl) (fun wq hq => ⟨_, rfl, hq.ext, rfl⟩)
  · skip
    replace h := bf c1 h
    have q2 := ltb_false.1 c1
    refine wl_g rfl rfl (ow_y (yh_move rfl rfl) rfl rfl (kk_wl ?_))
    refine wl_g rfl rfl (ow_y (yh_lenT Tb rfl rfl rfl rfl) rfl rfl (kk_wl ?_))
    refine wl_g rfl rfl (ow_y (yh_cmpI rfl rfl rfl rfl) rfl rfl (kk_wl ?_))
    refine wl_u rfl (ow_y (yh_pickF rfl rfl rfl) rfl rfl (kk_wl ?_))
    refine wl_nil ?_
    refine ex_seq ?_
    refine cw_split rfl (fun c2 => ?_) (fun c2 => ?_)
    · skip
      replace h := bt c2 h
      have q3 := ltb_true.1 c2
      refine cw_seq ?_
      refine cw_region ?_
      refine wl_u rfl (ow_y (yh_assign rfl rfl) rfl rfl (kk_wl ?_))
      refine wl_nil ?_
      refine ex_seq ?_
      refine cw_ret ?_
      refine ex_then_ret ?_
      obtain rfl := Option.some.inj h
      exact ex_r1 Tb rfl (.tmp rfl) (fun wq hq => ⟨_, rfl, hq.ext, rfl⟩)
    · skip
      replace h := bf c2 h
      have q4 := ltb_false.1 c2
      refine cw_skip ?_
      refine ex_seq ?_
      refine cw_seq ?_
      refine cw_seq ?_
      refine cw_region ?_
      refine wl_u rfl (ow_y (yh_move rfl rfl) rfl rfl (kk_wl ?_))
      refine wl_u rfl (ow_y (yh_lenT Tb rfl rfl rfl rfl) rfl rfl (kk_wl ?_))
      refine wl_u rfl (ow_y (yh_move rfl rfl) rfl rfl (kk_wl ?_))
      refine wl_nil ?_
      refine ex_seq ?_
      refine cw_block ?_
      obtain ⟨e8, he8, hk8⟩ := bd h
      clear h
      refine cw_loopG (σ := Nat × Nat) (fun s => m_impl_NameValid_L8 N s_ s.1 s.2 = some e8) (fun s => [(0, .string s_), (13, .int .i64 ((s_.size : Nat) : Int)), (14, .int .i64 ((s.2 : Nat) : Int))]) (fun s => []) (fun s => s.1) (N, 0) [] he8 ⟨rfl, rfl, rfl, trivial⟩ rfl (fun KL s he8 hn8 => ?_)
      obtain ⟨n8, s14⟩ := s
      simp only at he8 hn8 ⊢
      rcases n8 with _ | n8
      · exact nosome he8
      have h := he8; rw [m_impl_NameValid_L8] at h
      refine cw_seq ?_
      refine cw_region ?_
      refine wl_u rfl (ow_y (yh_cmpI rfl rfl rfl rfl) rfl rfl (kk_wl ?_))
      refine wl_nil ?_
      refine ex_seq ?_
      refine cw_seq ?_
      refine cw_split rfl (fun c3 => ?_) (fun c3 => ?_)
      · skip
        replace h := bt c3 h
        have q5 := ltb_true.1 c3
        refine cw_skip ?_
        refine ex_seq ?_
        refine cw_seq ?_
        refine cw_block ?_
        refine cw_seq ?_
        refine cw_region ?_
        refine wl_u rfl (ow_y (yh_move rfl rfl) rfl rfl (kk_wl ?_))
        refine wl_u rfl (ow_y (yh_assign rfl rfl) rfl rfl (kk_wl ?_))
        refine wl_nil ?_
        refine ex_seq ?_
        refine cw_seq ?_
        refine cw_region ?_
        refine wl_u rfl (ow_y (yh_move rfl rfl) rfl rfl (kk_wl ?_))
        refine wl_u rfl (ow_y (yh_move rfl rfl) rfl rfl (kk_wl ?_))
        obtain ⟨y19, hy19, h⟩ := bd h
        refine wl_u rfl (ow_y (yh_indexS Tb (k := s14) rfl rfl rfl rfl hy19 rfl) rfl rfl (kk_wl ?_))
        refine wl_u rfl (ow_y (yh_cmpI rfl rfl rfl rfl) rfl rfl (kk_wl ?_))
        refine wl_u rfl (ow_y (yh_move rfl rfl) rfl rfl (kk_wl ?_))
        refine wl_s rfl rfl (fun c4 => ?_) (fun c4 => ?_)
        · skip
          replace h := bt c4 h
          have q6 := ltb_true.1 c4
          refine wl_n rfl rfl rfl rfl ?_
          refine wl_n rfl rfl rfl rfl ?_
          refine wl_n rfl rfl rfl rfl ?_
          refine wl_n rfl rfl rfl rfl ?_
          refine wl_u rfl (ow_y (yh_pickT rfl rfl rfl) rfl rfl (kk_wl ?_))
          refine wl_nil ?_
          refine ex_seq ?_
          refine cw_true rfl ?_
          refine cw_seq ?_
          refine cw_region ?_
          refine wl_u rfl (ow_y (yh_assign rfl rfl) rfl rfl (kk_wl ?_))
          refine wl_nil ?_
          refine ex_seq ?_
          refine cw_ret ?_
          refine ex_block_ret ?_
          refine ex_then_ret ?_
          refine ex_then_ret ?_
          refine ex_block_ret ?_
          refine ex_then_ret ?_
          obtain rfl := Option.some.inj h
          obtain rfl := go_ret hk8
          exact ex_r1 Tb rfl (.tmp rfl) (fun wq hq => ⟨_, rfl, hq.ext, rfl⟩)
        · skip
          replace h := bf c4 h
          have q7 := ltb_false.1 c4
          refine wl_g rfl rfl (ow_y (yh_move rfl rfl) rfl rfl (kk_wl ?_))
          refine wl_g rfl rfl (ow_y (yh_move rfl rfl) rfl rfl (kk_wl ?_))
          obtain ⟨y24, hy24, h⟩ := bd h
          refine wl_g rfl rfl (ow_y (yh_indexS Tb (k := s14) rfl rfl rfl rfl hy24 rfl) rfl rfl (kk_wl ?_))
          refine wl_g rfl rfl (ow_y (yh_cmpI rfl rfl rfl rfl) rfl rfl (kk_wl ?_))
          refine wl_u rfl (ow_y (yh_pickF rfl rfl rfl) rfl rfl (kk_wl ?_))
          refine wl_nil ?_
          refine ex_seq ?_
          refine cw_split rfl (fun c5 => ?_) (fun c5 => ?_)
          · skip
            replace h := bt c5 h
            have q8 := ltb_true.1 c5
            refine cw_seq ?_
            refine cw_region ?_
            refine wl_u rfl (ow_y (yh_assign rfl rfl) rfl rfl (kk_wl ?_))
            refine wl_nil ?_
            refine ex_seq ?_
            refine cw_ret ?_
            refine ex_block_ret ?_
            refine ex_then_ret ?_
            refine ex_then_ret ?_
            refine ex_block_ret ?_
            refine ex_then_ret ?_
            obtain rfl := Option.some.inj h
            obtain rfl := go_ret hk8
            exact ex_r1 Tb rfl (.tmp rfl) (fun wq hq => ⟨_, rfl, hq.ext, rfl⟩)
          · skip
            replace h := bf c5 h
            have q9 := ltb_false.1 c5
            refine cw_skip ?_
            refine ex_block_normal ?_
            refine ex_seq ?_
            refine cw_region ?_
            refine wl_u rfl (ow_y (yh_arI rfl rfl rfl rfl (by omega)) rfl rfl (kk_wl ?_))
            refine wl_u rfl (ow_y (yh_move rfl rfl) rfl rfl (kk_wl ?_))
            refine wl_nil ?_
            exact ex_next [] (hn8 (n8, s14 + 1) (Nat.lt_succ_self _) h) ⟨rfl, rfl, rfl, trivial⟩ rfl
      · skip
        replace h := bf c3 h
        have q10 := ltb_false.1 c3
        refine cw_exit ?_
        refine ex_then_exit ?_
        refine ex_then_exit ?_
        obtain rfl := Option.some.inj h
        have h := go_brk hk8
        refine ex_block_exit ?_
        refine ex_seq ?_
        refine cw_seq ?_
        refine cw_region ?_
        refine wl_u rfl (ow_y (yh_assign rfl rfl) rfl rfl (kk_wl ?_))
        refine wl_nil ?_
        refine ex_seq ?_
        refine cw_ret ?_
        obtain rfl := Option.some.inj h
        exact ex_r1 Tb rfl (.tmp rfl) (fun wq hq => ⟨_, rfl, hq.ext, rfl⟩)

def m_impl_timerValid (N : Nat) (t : Timer) : Option (Bool) := (m_impl_isTime N t.at_).bind fun x5 => (bif x5 then (m_impl_NameValid N t.name).bind fun x9 => some x9
 else some false)

set_option maxHeartbeats 4000000 in
theorem c_impl_timerValid (N : Nat) (t : Timer) (res : Bool) (h : m_impl_timerValid N t = some res) (w : World) : Ret Try.prog 56 [.agg #[.int .i64 t.at_, .string t.name]] w [] fun v w' => v = .bool res := by
  unfold m_impl_timerValid at h
  refine ret_enter Try.func56 rfl Try.ntmps56 rfl (Hp.refl w _) ?_
  refine cw_seq ?_
  refine cw_region ?_
  refine wl_u rfl (ow_boxA rfl rfl rfl rfl (fun g1 => kk_wl ?_))
  refine wl_u rfl (ow_y (yh_assign rfl rfl) rfl rfl (kk_wl ?_))
  refine wl_nil ?_
  refine ex_seq ?_
  refine cw_seq ?_
  refine cw_region ?_
  refine wl_u rfl (ow_y (yh_field Tb rfl rfl rfl) rfl rfl (kk_wl ?_))
  refine wl_u rfl (ow_y (yh_loadB Tb (k := 0) rfl rfl rfl rfl rfl) rfl rfl (kk_wl ?_))
  obtain ⟨x5, hx5, h⟩ := bd h
  refine wl_u rfl (ow_cV rfl hb65 rfl (fun w hw => c_impl_isTime N _ _ hx5 w) rfl rfl (kk_wl ?_))
  refine wl_u rfl (ow_y (yh_move rfl rfl) rfl rfl (kk_wl ?_))
  refine wl_s rfl rfl (fun c1 => ?_) (fun c1 => ?_)
  · skip
    replace h := bt c1 h
    refine wl_g rfl rfl (ow_y (yh_field Tb rfl rfl rfl) rfl rfl (kk_wl ?_))
    refine wl_g rfl rfl (ow_y (yh_loadB Tb (k := 0) rfl rfl rfl rfl rfl) rfl rfl (kk_wl ?_))
    obtain ⟨x9, hx9, h⟩ := bd h
    refine wl_g rfl rfl (ow_cV rfl hb93 rfl (fun w hw => c_impl_NameValid N _ _ hx9 w) rfl rfl (kk_wl ?_))
    refine wl_u rfl (ow_y (yh_pickT rfl rfl rfl) rfl rfl (kk_wl ?_))
    refine wl_u rfl (ow_y (yh_assign rfl rfl) rfl rfl (kk_wl ?_))
    refine wl_nil ?_
    refine ex_seq ?_
    refine cw_ret ?_
    obtain rfl := Option.some.inj h
    exact ex_r1 Tb rfl (.tmp rfl) (fun wq hq => ⟨_, rfl, hq.ext, rfl⟩)
  · skip
    replace h := bf c1 h
    refine wl_n rfl rfl rfl rfl ?_
    refine wl_n rfl rfl rfl rfl ?_
    refine wl_n rfl rfl rfl rfl ?_
    refine wl_u rfl (ow_y (yh_pickF rfl rfl rfl) rfl rfl (kk_wl ?_))
    refine wl_u rfl (ow_y (yh_assign rfl rfl) rfl rfl (kk_wl ?_))
    refine wl_nil ?_
    refine ex_seq ?_
    refine cw_ret ?_
    obtain rfl := Option.some.inj h
    exact ex_r1 Tb rfl (.tmp rfl) (fun wq hq => ⟨_, rfl, hq.ext, rfl⟩)

def m_cmp_isNaN_int (N : Nat) (x : Int) : Option (Bool) := some (!(eqb x x))

set_option maxHeartbeats 4000000 in
theorem c_cmp_isNaN_int (N : Nat) (x : Int) (res : Bool) (h : m_cmp_isNaN_int N x = some res) (w : World) : Ret Try.prog 117 [.int .i64 x] w [] fun v w' => v = .bool res := by
  unfold m_cmp_isNaN_int at h
  refine ret_enter Try.func117 rfl Try.ntmps117 rfl (Hp.refl w _) ?_
  refine cw_seq ?_
  refine cw_region ?_
  refine wl_u rfl (ow_y (yh_assign rfl rfl) rfl rfl (kk_wl ?_))
  refine wl_nil ?_
  refine ex_seq ?_
  refine cw_seq ?_
  refine cw_region ?_
  refine wl_u rfl (ow_y (yh_move rfl rfl) rfl rfl (kk_wl ?_))
  refine wl_u rfl (ow_y (yh_move rfl rfl) rfl rfl (kk_wl ?_))
  refine wl_u rfl (ow_y (yh_cmpI rfl rfl rfl rfl) rfl rfl (kk_wl ?_))
  refine wl_u rfl (ow_y (yh_assign rfl rfl) rfl rfl (kk_wl ?_))
  refine wl_nil ?_
  refine ex_seq ?_
  refine cw_ret ?_
  obtain rfl := Option.some.inj h
  exact ex_r1 Tb rfl (.tmp rfl) (fun wq hq => ⟨_, rfl, hq.ext, rfl⟩)

def m_cmp_Compare_int (N : Nat) (x : Int) (y : Int) : Option (Int) := (m_cmp_isNaN_int N x).bind fun x8 => (m_cmp_isNaN_int N y).bind fun x10 => (bif x8 then (bif x10 then some 0
 else some (-1))
 else (bif x10 then some 1
 else (bif ltb x y then some (-1)
 else (bif ltb y x then some 1
 else some 0))))

set_option maxHeartbeats 4000000 in
theorem c_cmp_Compare_int (N : Nat) (x : Int) (y : Int) (res : Int) (h : m_cmp_Compare_int N x y = some res) (w : World) : Ret Try.prog 95 [.int .i64 x, .int .i64 y] w [] fun v w' => v = .int .i64 res := by
  unfold m_cmp_Compare_int at h
  refine ret_enter Try.func95 rfl Try.ntmps95 rfl (Hp.refl w _) ?_
  refine cw_seq ?_
  refine cw_region ?_
  refine wl_u rfl (ow_y (yh_assign rfl rfl) rfl rfl (kk_wl ?_))
  refine wl_nil ?_
  refine ex_seq ?_
  refine cw_seq ?_
  refine cw_region ?_
  refine wl_u rfl (ow_y (yh_move rfl rfl) rfl rfl (kk_wl ?_))
  obtain ⟨x8, hx8, h⟩ := bd h
  refine wl_u rfl (ow_cV rfl hb117 rfl (fun w hw => c_cmp_isNaN_int N _ _ hx8 w) rfl rfl (kk_wl ?_))
  refine wl_u rfl (ow_y (yh_assign rfl rfl) rfl rfl (kk_wl ?_))
  refine wl_nil ?_
  refine ex_seq ?_
  refine cw_seq ?_
  refine cw_region ?_
  refine wl_u rfl (ow_y (yh_move rfl rfl) rfl rfl (kk_wl ?_))
  obtain ⟨x10, hx10, h⟩ := bd h
  refine wl_u rfl (ow_cV rfl hb117 rfl (fun w hw => c_cmp_isNaN_int N _ _ hx10 w) rfl rfl (kk_wl ?_))
  refine wl_u rfl (ow_y (yh_assign rfl rfl) rfl rfl (kk_wl ?_))
  refine wl_nil ?_
  refine ex_seq ?_
  refine cw_seq ?_
  refine cw_seq ?_
  refine cw_region ?_
  refine wl_u rfl (ow_y (yh_move rfl rfl) rfl rfl (kk_wl ?_))
  refine wl_nil ?_
  refine ex_seq ?_
  refine cw_split rfl (fun c1 => ?_) (fun c1 => ?_)
  · skip
    replace h := bt c1 h
    refine cw_seq ?_
    refine cw_seq ?_
    refine cw_region ?_
    refine wl_u rfl (ow_y (yh_move rfl rfl) rfl rfl (kk_wl ?_))
    refine wl_nil ?_
    refine ex_seq ?_
    refine cw_split rfl (fun c2 => ?_) (fun c2 => ?_)
    · skip
      replace h := bt c2 h
      refine cw_seq ?_
      refine cw_region ?_
      refine wl_u rfl (ow_y (yh_assign rfl rfl) rfl rfl (kk_wl ?_))
      refine wl_nil ?_
      refine ex_seq ?_
      refine cw_ret ?_
      refine ex_then_ret ?_
      refine ex_then_ret ?_
      obtain rfl := Option.some.inj h
      exact ex_r1 Tb rfl (.tmp rfl) (fun wq hq => ⟨_, rfl, hq.ext, rfl⟩)
    · skip
      replace h := bf c2 h
      refine cw_skip ?_
      refine ex_seq ?_
      refine cw_seq ?_
      refine cw_region ?_
      refine wl_u rfl (ow_y (yh_assign rfl rfl) rfl rfl (kk_wl ?_))
      refine wl_nil ?_
      refine ex_seq ?_
      refine cw_ret ?_
      refine ex_then_ret ?_
      obtain rfl := Option.some.inj h
      exact ex_r1 Tb rfl (.tmp rfl) (fun wq hq => ⟨_, rfl, hq.ext, rfl⟩)
  · skip
    replace h := bf c1 h
    refine cw_skip ?_
    refine ex_seq ?_
    refine cw_seq ?_
    refine cw_seq ?_
    refine cw_region ?_
    refine wl_u rfl (ow_y (yh_move rfl rfl) rfl rfl (kk_wl ?_))
    refine wl_nil ?_
    refine ex_seq ?_
    refine cw_split rfl (fun c3 => ?_) (fun c3 => ?_)
    · skip
      replace h := bt c3 h
      refine cw_seq ?_
      refine cw_region ?_
      refine wl_u rfl (ow_y (yh_assign rfl rfl) rfl rfl (kk_wl ?_))
      refine wl_nil ?_
      refine ex_seq ?_
      refine cw_ret ?_
      refine ex_then_ret ?_
      obtain rfl := Option.some.inj h
      exact ex_r1 Tb rfl (.tmp rfl) (fun wq hq => ⟨_, rfl, hq.ext, rfl⟩)
    · skip
      replace h := bf c3 h
      refine cw_skip ?_
      refine ex_seq ?_
      refine cw_seq ?_
      refine cw_seq ?_
      refine cw_region ?_
      refine wl_u rfl (ow_y (yh_move rfl rfl) rfl rfl (kk_wl ?_))
      refine wl_u rfl (ow_y (yh_move rfl rfl) rfl rfl (kk_wl ?_))
      refine wl_u rfl (ow_y (yh_cmpI rfl rfl rfl rfl) rfl rfl (kk_wl ?_))
      refine wl_nil ?_
      refine ex_seq ?_
      refine cw_split rfl (fun c4 => ?_) (fun c4 => ?_)
      · skip
        replace h := bt c4 h
        have q1 := ltb_true.1 c4
        refine cw_seq ?_
        refine cw_region ?_
        refine wl_u rfl (ow_y (yh_assign rfl rfl) rfl rfl (kk_wl ?_))
        refine wl_nil ?_
        refine ex_seq ?_
        refine cw_ret ?_
        refine ex_then_ret ?_
        obtain rfl := Option.some.inj h
        exact ex_r1 Tb rfl (.tmp rfl) (fun wq hq => ⟨_, rfl, hq.ext, rfl⟩)
      · skip
        replace h := bf c4 h
        have q2 := ltb_false.1 c4
        refine cw_skip ?_
        refine ex_seq ?_
        refine cw_seq ?_
        refine cw_seq ?_
        refine cw_region ?_
        refine wl_u rfl (ow_y (yh_move rfl rfl) rfl rfl (kk_wl ?_))
        refine wl_u rfl (ow_y (yh_move rfl rfl) rfl rfl (kk_wl ?_))
        refine wl_u rfl (ow_y (yh_cmpI rfl rfl rfl rfl) rfl rfl (kk_wl ?_))
        refine wl_nil ?_
        refine ex_seq ?_
        refine cw_split rfl (fun c5 => ?_) (fun c5 => ?_)
        · skip
          replace h := bt c5 h
          have q3 := ltb_true.1 c5
          refine cw_seq ?_
          refine cw_region ?_
          refine wl_u rfl (ow_y (yh_assign rfl rfl) rfl rfl (kk_wl ?_))
          refine wl_nil ?_
          refine ex_seq ?_
          refine cw_ret ?_
          refine ex_then_ret ?_
          obtain rfl := Option.some.inj h
          exact ex_r1 Tb rfl (.tmp rfl) (fun wq hq => ⟨_, rfl, hq.ext, rfl⟩)
        · skip
          replace h := bf c5 h
          have q4 := ltb_false.1 c5
          refine cw_skip ?_
          refine ex_seq ?_
          refine cw_seq ?_
          refine cw_region ?_
          refine wl_u rfl (ow_y (yh_assign rfl rfl) rfl rfl (kk_wl ?_))
          refine wl_nil ?_
          refine ex_seq ?_
          refine cw_ret ?_
          obtain rfl := Option.some.inj h
          exact ex_r1 Tb rfl (.tmp rfl) (fun wq hq => ⟨_, rfl, hq.ext, rfl⟩)

def m_cmp_isNaN_string (N : Nat) (x : Str) : Option (Bool) := some (!(seq x x))

set_option maxHeartbeats 4000000 in
theorem c_cmp_isNaN_string (N : Nat) (x : Str) (res : Bool) (h : m_cmp_isNaN_string N x = some res) (w : World) : Ret Try.prog 118 [.string x] w [] fun v w' => v = .bool res := by
  unfold m_cmp_isNaN_string at h
  refine ret_enter Try.func118 rfl Try.ntmps118 rfl (Hp.refl w _) ?_
  refine cw_seq ?_
  refine cw_region ?_
  refine wl_u rfl (ow_y (yh_assign rfl rfl) rfl rfl (kk_wl ?_))
  refine wl_nil ?_
  refine ex_seq ?_
  refine cw_seq ?_
  refine cw_region ?_
  refine wl_u rfl (ow_y (yh_move rfl rfl) rfl rfl (kk_wl ?_))
  refine wl_u rfl (ow_y (yh_move rfl rfl) rfl rfl (kk_wl ?_))
  refine wl_u rfl (ow_y (yh_cmpS rfl rfl rfl rfl) rfl rfl (kk_wl ?_))
  refine wl_u rfl (ow_y (yh_assign rfl rfl) rfl rfl (kk_wl ?_))
  refine wl_nil ?_
  refine ex_seq ?_
  refine cw_ret ?_
  obtain rfl := Option.some.inj h
  exact ex_r1 Tb rfl (.tmp rfl) (fun wq hq => ⟨_, rfl, hq.ext, rfl⟩)

def m_cmp_Compare_string (N : Nat) (x : Str) (y : Str) : Option (Int) := (m_cmp_isNaN_string N x).bind fun x8 => (m_cmp_isNaN_string N y).bind fun x10 => (bif x8 then (bif x10 then some 0
 else some (-1))
 else (bif x10 then some 1
 else (bif slt x y then some (-1)
 else (bif !((slt x y) || (seq x y)) then some 1
 else some 0))))

set_option maxHeartbeats 4000000 in
theorem c_cmp_Compare_string (N : Nat) (x : Str) (y : Str) (res : Int) (h : m_cmp_Compare_string N x y = some res) (w : World) : Ret Try.prog 96 [.string x, .string y] w [] fun v w' => v = .int .i64 res := by
  unfold m_cmp_Compare_string at h
  refine ret_enter Try.func96 rfl Try.ntmps96 rfl (Hp.refl w _) ?_
  refine cw_seq ?_
  refine cw_region ?_
  refine wl_u rfl (ow_y (yh_assign rfl rfl) rfl rfl (kk_wl ?_))
  refine wl_nil ?_
  refine ex_seq ?_
  refine cw_seq ?_
  refine cw_region ?_
  refine wl_u rfl (ow_y (yh_move rfl rfl) rfl rfl (kk_wl ?_))
  obtain ⟨x8, hx8, h⟩ := bd h
  refine wl_u rfl (ow_cV rfl hb118 rfl (fun w hw => c_cmp_isNaN_string N _ _ hx8 w) rfl rfl (kk_wl ?_))
  refine wl_u rfl (ow_y (yh_assign rfl rfl) rfl rfl (kk_wl ?_))
  refine wl_nil ?_
  refine ex_seq ?_
  refine cw_seq ?_
  refine cw_region ?_
  refine wl_u rfl (ow_y (yh_move rfl rfl) rfl rfl (kk_wl ?_))
  obtain ⟨x10, hx10, h⟩ := bd h
  refine wl_u rfl (ow_cV rfl hb118 rfl (fun w hw => c_cmp_isNaN_string N _ _ hx10 w) rfl rfl (kk_wl ?_))
  refine wl_u rfl (ow_y (yh_assign rfl rfl) rfl rfl (kk_wl ?_))
  refine wl_nil ?_
  refine ex_seq ?_
  refine cw_seq ?_
  refine cw_seq ?_
  refine cw_region ?_
  refine wl_u rfl (ow_y (yh_move rfl rfl) rfl rfl (kk_wl ?_))
  refine wl_nil ?_
  refine ex_seq ?_
  refine cw_split rfl (fun c1 => ?_) (fun c1 => ?_)
  · skip
    replace h := bt c1 h
    refine cw_seq ?_
    refine cw_seq ?_
    refine cw_region ?_
    refine wl_u rfl (ow_y (yh_move rfl rfl) rfl rfl (kk_wl ?_))
    refine wl_nil ?_
    refine ex_seq ?_
    refine cw_split rfl (fun c2 => ?_) (fun c2 => ?_)
    · skip
      replace h := bt c2 h
      refine cw_seq ?_
      refine cw_region ?_
      refine wl_u rfl (ow_y (yh_assign rfl rfl) rfl rfl (kk_wl ?_))
      refine wl_nil ?_
      refine ex_seq ?_
      refine cw_ret ?_
      refine ex_then_ret ?_
      refine ex_then_ret ?_
      obtain rfl := Option.some.inj h
      exact ex_r1 Tb rfl (.tmp rfl) (fun wq hq => ⟨_, rfl, hq.ext, rfl⟩)
    · skip
      replace h := bf c2 h
      refine cw_skip ?_
      refine ex_seq ?_
      refine cw_seq ?_
      refine cw_region ?_
      refine wl_u rfl (ow_y (yh_assign rfl rfl) rfl rfl (kk_wl ?_))
      refine wl_nil ?_
      refine ex_seq ?_
      refine cw_ret ?_
      refine ex_then_ret ?_
      obtain rfl := Option.some.inj h
      exact ex_r1 Tb rfl (.tmp rfl) (fun wq hq => ⟨_, rfl, hq.ext, rfl⟩)
  · skip
    replace h := bf c1 h
    refine cw_skip ?_
    refine ex_seq ?_
    refine cw_seq ?_
    refine cw_seq ?_
    refine cw_region ?_
    refine wl_u rfl (ow_y (yh_move rfl rfl) rfl rfl (kk_wl ?_))
    refine wl_nil ?_
    refine ex_seq ?_
    refine cw_split rfl (fun c3 => ?_) (fun c3 => ?_)
    · skip
      replace h := bt c3 h
      refine cw_seq ?_
      refine cw_region ?_
      refine wl_u rfl (ow_y (yh_assign rfl rfl) rfl rfl (kk_wl ?_))
      refine wl_nil ?_
      refine ex_seq ?_
      refine cw_ret ?_
      refine ex_then_ret ?_
      obtain rfl := Option.some.inj h
      exact ex_r1 Tb rfl (.tmp rfl) (fun wq hq => ⟨_, rfl, hq.ext, rfl⟩)
    · skip
      replace h := bf c3 h
      refine cw_skip ?_
      refine ex_seq ?_
      refine cw_seq ?_
      refine cw_seq ?_
      refine cw_region ?_
      refine wl_u rfl (ow_y (yh_move rfl rfl) rfl rfl (kk_wl ?_))
      refine wl_u rfl (ow_y (yh_move rfl rfl) rfl rfl (kk_wl ?_))
      refine wl_u rfl (ow_y (yh_cmpS rfl rfl rfl rfl) rfl rfl (kk_wl ?_))
      refine wl_nil ?_
      refine ex_seq ?_
      refine cw_split rfl (fun c4 => ?_) (fun c4 => ?_)
      · skip
        replace h := bt c4 h
        refine cw_seq ?_
        refine cw_region ?_
        refine wl_u rfl (ow_y (yh_assign rfl rfl) rfl rfl (kk_wl ?_))
        refine wl_nil ?_
        refine ex_seq ?_
        refine cw_ret ?_
        refine ex_then_ret ?_
        obtain rfl := Option.some.inj h
        exact ex_r1 Tb rfl (.tmp rfl) (fun wq hq => ⟨_, rfl, hq.ext, rfl⟩)
      · skip
        replace h := bf c4 h
        refine cw_skip ?_
        refine ex_seq ?_
        refine cw_seq ?_
        refine cw_seq ?_
        refine cw_region ?_
        refine wl_u rfl (ow_y (yh_move rfl rfl) rfl rfl (kk_wl ?_))
        refine wl_u rfl (ow_y (yh_move rfl rfl) rfl rfl (kk_wl ?_))
        refine wl_u rfl (ow_y (yh_cmpS rfl rfl rfl rfl) rfl rfl (kk_wl ?_))
        refine wl_nil ?_
        refine ex_seq ?_
        refine cw_split rfl (fun c5 => ?_) (fun c5 => ?_)
        · skip
          replace h := bt c5 h
          refine cw_seq ?_
          refine cw_region ?_
          refine wl_u rfl (ow_y (yh_assign rfl rfl) rfl rfl (kk_wl ?_))
          refine wl_nil ?_
          refine ex_seq ?_
          refine cw_ret ?_
          refine ex_then_ret ?_
          obtain rfl := Option.some.inj h
          exact ex_r1 Tb rfl (.tmp rfl) (fun wq hq => ⟨_, rfl, hq.ext, rfl⟩)
        · skip
          replace h := bf c5 h
          refine cw_skip ?_
          refine ex_seq ?_
          refine cw_seq ?_
          refine cw_region ?_
          refine wl_u rfl (ow_y (yh_assign rfl rfl) rfl rfl (kk_wl ?_))
          refine wl_nil ?_
          refine ex_seq ?_
          refine cw_ret ?_
          obtain rfl := Option.some.inj h
          exact ex_r1 Tb rfl (.tmp rfl) (fun wq hq => ⟨_, rfl, hq.ext, rfl⟩)

def m_cmp_Or_int_L5 (N : Nat) (vals : List Int) : Nat → Nat → Option (Ex (Nat) (Int))
  | 0, _ => none
  | n + 1, s8 => (bif ltb ((s8 : Nat) : Int) ((vals.length : Nat) : Int) then (vals[s8]?).bind fun y10 => (bif !(eqb y10 0) then some (Ex.ret y10)
 else m_cmp_Or_int_L5 N vals n (s8 + 1))
 else some (Ex.brk (s8)))

def m_cmp_Or_int (N : Nat) (vals : List Int) : Option (Int) := (m_cmp_Or_int_L5 N vals N 0).bind fun e5 => e5.go (fun r => r) fun b5 => some 0

set_option maxHeartbeats 4000000 in
theorem c_cmp_Or_int (N : Nat) (vals : List Int) (res : Int) (h : m_cmp_Or_int N vals = some res) (w : World) {a_vals : Option Addr} {c_vals : Nat} (h_vals : intsL.rd w [] [.slice a_vals vals.length c_vals] vals) : Ret Try.prog 94 [.slice a_vals vals.length c_vals] w [] fun v w' => v = .int .i64 res := by
  have mh_vals := rd_max h_vals
  unfold m_cmp_Or_int at h
  refine ret_enter Try.func94 rfl Try.ntmps94 rfl (Hp.refl w _) ?_
  refine cw_seq ?_
  refine cw_region ?_
  refine wl_u rfl (ow_y (yh_assign rfl rfl) rfl rfl (kk_wl ?_))
  refine wl_nil ?_
  refine ex_seq ?_
  refine cw_seq ?_
  refine cw_region ?_
  refine wl_u rfl (ow_y (yh_assign rfl rfl) rfl rfl (kk_wl ?_))
  refine wl_nil ?_
  refine ex_seq ?_
  refine cw_seq ?_
  refine cw_seq ?_
  refine cw_region ?_
  refine wl_u rfl (ow_y (yh_move rfl rfl) rfl rfl (kk_wl ?_))
  refine wl_u rfl (ow_y (yh_lenS Tb rfl rfl rfl rfl) rfl rfl (kk_wl ?_))
  refine wl_u rfl (ow_y (yh_move rfl rfl) rfl rfl (kk_wl ?_))
  refine wl_nil ?_
  refine ex_seq ?_
  refine cw_block ?_
  obtain ⟨e5, he5, hk5⟩ := bd h
  clear h
  refine cw_loopG (σ := Nat × Nat) (fun s => m_cmp_Or_int_L5 N vals s.1 s.2 = some e5) (fun s => [(3, .int .i64 0), (6, .slice a_vals vals.length c_vals), (7, .int .i64 ((vals.length : Nat) : Int)), (8, .int .i64 ((s.2 : Nat) : Int))]) (fun s => []) (fun s => s.1) (N, 0) [] he5 ⟨rfl, rfl, rfl, rfl, trivial⟩ rfl (fun KL s he5 hn5 => ?_)
  obtain ⟨n5, s8⟩ := s
  simp only at he5 hn5 ⊢
  rcases n5 with _ | n5
  · exact nosome he5
  have h := he5; rw [m_cmp_Or_int_L5] at h
  refine cw_seq ?_
  refine cw_region ?_
  refine wl_u rfl (ow_y (yh_cmpI rfl rfl rfl rfl) rfl rfl (kk_wl ?_))
  refine wl_nil ?_
  refine ex_seq ?_
  refine cw_seq ?_
  refine cw_split rfl (fun c1 => ?_) (fun c1 => ?_)
  · skip
    replace h := bt c1 h
    have q1 := ltb_true.1 c1
    refine cw_skip ?_
    refine ex_seq ?_
    refine cw_seq ?_
    refine cw_block ?_
    refine cw_seq ?_
    refine cw_region ?_
    obtain ⟨y10, hy10, h⟩ := bd h
    obtain ⟨b10, o10, ha10⟩ := sl_addr h_vals hy10
    subst ha10
    have hc10 := get_int h_vals hy10
    refine wl_u rfl (ow_y (yh_idx Tb (k := s8) rfl rfl rfl rfl (get_lt hy10) rfl rfl) rfl rfl (kk_wl ?_))
    refine wl_u rfl (ow_y (yh_loadA0 Tb rfl rfl rfl hc10 rfl) rfl rfl (kk_wl ?_))
    refine wl_u rfl (ow_y (yh_assign rfl rfl) rfl rfl (kk_wl ?_))
    refine wl_nil ?_
    refine ex_seq ?_
    refine cw_seq ?_
    refine cw_region ?_
    refine wl_u rfl (ow_y (yh_move rfl rfl) rfl rfl (kk_wl ?_))
    refine wl_u rfl (ow_y (yh_move rfl rfl) rfl rfl (kk_wl ?_))
    refine wl_u rfl (ow_y (yh_cmpI rfl rfl rfl rfl) rfl rfl (kk_wl ?_))
    refine wl_nil ?_
    refine ex_seq ?_
    refine cw_split rfl (fun c2 => ?_) (fun c2 => ?_)
    · skip
      replace h := bt c2 h
      have q2 := eqb_false.1 (nt c2)
      refine cw_seq ?_
      refine cw_region ?_
      refine wl_u rfl (ow_y (yh_move rfl rfl) rfl rfl (kk_wl ?_))
      refine wl_u rfl (ow_y (yh_assign rfl rfl) rfl rfl (kk_wl ?_))
      refine wl_nil ?_
      refine ex_seq ?_
      refine cw_ret ?_
      refine ex_block_ret ?_
      refine ex_then_ret ?_
      refine ex_then_ret ?_
      refine ex_block_ret ?_
      refine ex_then_ret ?_
      obtain rfl := Option.some.inj h
      obtain rfl := go_ret hk5
      exact ex_r1 Tb rfl (.tmp rfl) (fun wq hq => ⟨_, rfl, hq.ext, rfl⟩)
    · skip
      replace h := bf c2 h
      have q3 := eqb_true.1 (nf c2)
      refine cw_skip ?_
      refine ex_block_normal ?_
      refine ex_seq ?_
      refine cw_region ?_
      refine wl_u rfl (ow_y (yh_arI rfl rfl rfl rfl (by omega)) rfl rfl (kk_wl ?_))
      refine wl_u rfl (ow_y (yh_move rfl rfl) rfl rfl (kk_wl ?_))
      refine wl_nil ?_
      exact ex_next [] (hn5 (n5, s8 + 1) (Nat.lt_succ_self _) h) ⟨rfl, rfl, rfl, rfl, trivial⟩ rfl
  · skip
    replace h := bf c1 h
    have q4 := ltb_false.1 c1
    refine cw_exit ?_
    refine ex_then_exit ?_
    refine ex_then_exit ?_
    obtain rfl := Option.some.inj h
    have h := go_brk hk5
    refine ex_block_exit ?_
    refine ex_seq ?_
    refine cw_seq ?_
    refine cw_region ?_
    refine wl_u rfl (ow_y (yh_move rfl rfl) rfl rfl (kk_wl ?_))
    refine wl_u rfl (ow_y (yh_assign rfl rfl) rfl rfl (kk_wl ?_))
    refine wl_nil ?_
    refine ex_seq ?_
    refine cw_ret ?_
    obtain rfl := Option.some.inj h
    exact ex_r1 Tb rfl (.tmp rfl) (fun wq hq => ⟨_, rfl, hq.ext, rfl⟩)

def m_impl_compareTimers (N : Nat) (a : Timer) (b : Timer) : Option (Int) := (m_cmp_Compare_int N a.at_ b.at_).bind fun x9 => (m_cmp_Compare_string N a.name b.name).bind fun x14 => (m_cmp_Or_int N ([x9, x14] : List Int)).bind fun x16 => some x16

set_option maxHeartbeats 4000000 in
theorem c_impl_compareTimers (N : Nat) (a : Timer) (b : Timer) (res : Int) (h : m_impl_compareTimers N a b = some res) (w : World) : Ret Try.prog 57 [.agg #[.int .i64 a.at_, .string a.name], .agg #[.int .i64 b.at_, .string b.name]] w [] fun v w' => v = .int .i64 res := by
  unfold m_impl_compareTimers at h
  refine ret_enter Try.func57 rfl Try.ntmps57 rfl (Hp.refl w _) ?_
  refine cw_seq ?_
  refine cw_region ?_
  refine wl_u rfl (ow_boxA rfl rfl rfl rfl (fun g2 => kk_wl ?_))
  refine wl_u rfl (ow_boxA rfl rfl rfl rfl (fun g3 => kk_wl ?_))
  refine wl_u rfl (ow_y (yh_assign rfl rfl) rfl rfl (kk_wl ?_))
  refine wl_nil ?_
  refine ex_seq ?_
  refine cw_seq ?_
  refine cw_dr [0, 1, 2, 3, 5, 6, 7, 8, 12] [] [blkC g3 39 [.int .i64 b.at_, .string b.name], blkC g2 39 [.int .i64 a.at_, .string a.name]] (by kernel_rfl) ?_
  refine wd_take (i := 0) [0, 1] rfl rfl rfl rfl rfl (by kernel_rfl) rfl (fun _ _ _ _ h => h) (yh_field Tb rfl rfl rfl) ?_
  refine wd_take (i := 1) [0, 1] rfl rfl rfl rfl rfl (by kernel_rfl) rfl (fun _ _ _ _ h => h) (yh_loadB Tb (k := 1) rfl rfl rfl rfl rfl) ?_
  refine wd_take (i := 2) [0, 1] rfl rfl rfl rfl rfl (by kernel_rfl) rfl (fun _ _ _ _ h => h) (yh_field Tb rfl rfl rfl) ?_
  refine wd_take (i := 3) [0, 1] rfl rfl rfl rfl rfl (by kernel_rfl) rfl (fun _ _ _ _ h => h) (yh_loadB Tb (k := 0) rfl rfl rfl rfl rfl) ?_
  refine wd_take (i := 5) [0, 1] rfl rfl rfl rfl rfl (by kernel_rfl) rfl (fun _ _ _ _ h => h) (yh_field Tb rfl rfl rfl) ?_
  refine wd_take (i := 6) [0, 1] rfl rfl rfl rfl rfl (by kernel_rfl) rfl (fun _ _ _ _ h => h) (yh_loadB Tb (k := 1) rfl rfl rfl rfl rfl) ?_
  refine wd_take (i := 7) [0, 1] rfl rfl rfl rfl rfl (by kernel_rfl) rfl (fun _ _ _ _ h => h) (yh_field Tb rfl rfl rfl) ?_
  refine wd_take (i := 8) [0, 1] rfl rfl rfl rfl rfl (by kernel_rfl) rfl (fun _ _ _ _ h => h) (yh_loadB Tb (k := 0) rfl rfl rfl rfl rfl) ?_
  obtain ⟨x9, hx9, h⟩ := bd h
  refine wd_one 4 rfl rfl (by kernel_rfl) (ow_cV rfl hb95 rfl (fun w hw => c_cmp_Compare_int N _ _ _ hx9 w) rfl rfl (kk_wd [0, 1] rfl ?_))
  obtain ⟨x14, hx14, h⟩ := bd h
  refine wd_one 9 rfl rfl (by kernel_rfl) (ow_cV rfl hb96 rfl (fun w hw => c_cmp_Compare_string N _ _ _ hx14 w) rfl rfl (kk_wd [0, 1] rfl ?_))
  refine wd_one 10 rfl rfl (by kernel_rfl) (ow_lit1 Tb rfl rfl rfl rfl rfl rfl rfl rfl rfl rfl (fun g15 => kk_chg (c' := owC intsL [g15] [.slice (some ⟨g15, 0, none⟩) 2 2] ([x9, x14] : List Int)) 0 rfl (fun w hA => own_intsL ([x9, x14] : List Int) hA rfl (by simp [maxLen])) rfl (kk_wd [1, 2] rfl ?_)))
  obtain ⟨x16, hx16, h⟩ := bd h
  refine wd_one 11 rfl rfl (by kernel_rfl) (ow_cV rfl hb94 rfl (fun w hw => c_cmp_Or_int N _ _ hx16 w (rdo (A := intsL) 0 rfl hw)) rfl rfl (kk_wd [1, 2] rfl ?_))
  refine wd_take (i := 12) [1, 2] rfl rfl rfl rfl rfl (by kernel_rfl) rfl (fun _ _ _ _ h => h) (yh_assign rfl rfl) ?_
  refine wd_done (by kernel_rfl) ?_
  refine ex_seq ?_
  refine cw_ret ?_
  obtain rfl := Option.some.inj h
  exact ex_r1 Tb rfl (.tmp rfl) (fun wq hq => ⟨_, rfl, hq.ext, rfl⟩)

def m_impl_TimersValid_L6 (N : Nat) (list_ : List Timer) : Nat → (List Str) → Nat → Option (Ex (List Str × Nat) (Bool))
  | 0, _, _ => none
  | n + 1, s3, s9 => (bif ltb ((s9 : Nat) : Int) ((list_.length : Nat) : Int) then (list_[s9]?).bind fun y12 => (m_impl_timerValid N y12).bind fun x15 => (bif !x15 then some (Ex.ret false)
 else (bif s3.any fun u => seq u y12.name then some (Ex.ret false)
 else (bif ltb 0 ((s9 : Nat) : Int) then (geti list_ (((s9 : Nat) : Int) - 1)).bind fun y30 => (m_impl_compareTimers N y30 y12).bind fun x33 => (bif leb 0 x33 then some (Ex.ret false)
 else m_impl_TimersValid_L6 N list_ n (s3 ++ [y12.name]) (s9 + 1))
 else m_impl_TimersValid_L6 N list_ n (s3 ++ [y12.name]) (s9 + 1))))
 else some (Ex.brk (s3, s9)))

def m_impl_TimersValid (N : Nat) (list_ : List Timer) : Option (Bool) := (m_impl_TimersValid_L6 N list_ N ([] : List Str) 0).bind fun e6 => e6.go (fun r => r) fun b6 => some (leb ((list_.length : Nat) : Int) 8)

set_option maxHeartbeats 4000000 in
theorem c_impl_TimersValid (N : Nat) (list_ : List Timer) (res : Bool) (h : m_impl_TimersValid N list_ = some res) (w : World) {a_list_ : Option Addr} {c_list_ : Nat} (h_list_ : timersL.rd w [] [.slice a_list_ list_.length c_list_] list_) : Ret Try.prog 15 [.slice a_list_ list_.length c_list_] w [] fun v w' => v = .bool res := by
  have mh_list_ := rd_max h_list_
  unfold m_impl_TimersValid at h
  refine ret_enter Try.func15 rfl Try.ntmps15 rfl (Hp.refl w _) ?_
  refine cw_seq ?_
  refine cw_region ?_
  refine wl_u rfl (ow_y (yh_assign rfl rfl) rfl rfl (kk_wl ?_))
  refine wl_nil ?_
  refine ex_seq ?_
  refine cw_seq ?_
  refine cw_region ?_
  refine wl_u rfl (ow_mkmap rfl rfl rfl (fun r6 => kk_wl ?_))
  refine wl_u rfl (ow_y (yh_assign rfl rfl) rfl rfl (kk_wl ?_))
  refine wl_nil ?_
  refine ex_seq ?_
  refine cw_seq ?_
  refine cw_seq ?_
  refine cw_region ?_
  refine wl_u rfl (ow_y (yh_move rfl rfl) rfl rfl (kk_wl ?_))
  refine wl_u rfl (ow_y (yh_lenS Tb rfl rfl rfl rfl) rfl rfl (kk_wl ?_))
  refine wl_u rfl (ow_y (yh_move rfl rfl) rfl rfl (kk_wl ?_))
  refine wl_nil ?_
  refine ex_seq ?_
  refine cw_block ?_
  obtain ⟨e6, he6, hk6⟩ := bd h
  clear h
  refine cw_loopG (σ := Nat × (List Str) × Nat) (fun s => m_impl_TimersValid_L6 N list_ s.1 s.2.1 s.2.2 = some e6) (fun s => [(0, .slice a_list_ list_.length c_list_), (3, .map (some r6)), (7, .slice a_list_ list_.length c_list_), (8, .int .i64 ((list_.length : Nat) : Int)), (9, .int .i64 ((s.2.2 : Nat) : Int))]) (fun s => [mapC r6 s.2.1]) (fun s => s.1) (N, ([] : List Str), 0) [0] he6 ⟨rfl, rfl, rfl, rfl, rfl, trivial⟩ rfl (fun KL s he6 hn6 => ?_)
  obtain ⟨n6, s3, s9⟩ := s
  simp only at he6 hn6 ⊢
  rcases n6 with _ | n6
  · exact nosome he6
  have h := he6; rw [m_impl_TimersValid_L6] at h
  refine cw_seq ?_
  refine cw_region ?_
  refine wl_u rfl (ow_y (yh_cmpI rfl rfl rfl rfl) rfl rfl (kk_wl ?_))
  refine wl_nil ?_
  refine ex_seq ?_
  refine cw_seq ?_
  refine cw_split rfl (fun c1 => ?_) (fun c1 => ?_)
  · skip
    replace h := bt c1 h
    have q1 := ltb_true.1 c1
    refine cw_skip ?_
    refine ex_seq ?_
    refine cw_seq ?_
    refine cw_block ?_
    refine cw_seq ?_
    refine cw_region ?_
    refine wl_u rfl (ow_y (yh_move rfl rfl) rfl rfl (kk_wl ?_))
    obtain ⟨y12, hy12, h⟩ := bd h
    obtain ⟨b12, o12, ha12⟩ := sl_addr h_list_ hy12
    subst ha12
    have hc12 := get_timer h_list_ hy12
    refine wl_u rfl (ow_y (yh_idx Tb (k := s9) rfl rfl rfl rfl (get_lt hy12) rfl rfl) rfl rfl (kk_wl ?_))
    refine wl_u rfl (ow_y (yh_loadAN Tb rfl rfl rfl rfl hc12 rfl) rfl rfl (kk_wl ?_))
    refine wl_u rfl (ow_allocA Tb rfl rfl rfl rfl (fun g5 => kk_wl ?_))
    refine wl_u rfl (ow_y (yh_assign rfl rfl) rfl rfl (kk_wl ?_))
    refine wl_u rfl (ow_storeA Tb (k := 0) rfl rfl rfl rfl rfl rfl rfl rfl rfl (kk_wl ?_))
    refine wl_nil ?_
    refine ex_seq ?_
    refine cw_seq ?_
    refine cw_seq ?_
    refine cw_dr [0, 2, 3, 4, 5, 6, 7, 8, 9, 10, 11, 12, 13, 14, 15, 16, 17, 18, 20, 21, 22] [] [blkC g5 39 [.int .i64 y12.at_, .string y12.name], mapC r6 s3] (by kernel_rfl) ?_
    refine wd_take (i := 0) [0, 1] rfl rfl rfl rfl rfl (by kernel_rfl) rfl (fun _ _ _ _ h => h) (yh_loadBA Tb (k := 0) rfl rfl rfl rfl rfl rfl) ?_
    obtain ⟨x15, hx15, h⟩ := bd h
    refine wd_one 1 rfl rfl (by kernel_rfl) (ow_cV rfl hb56 rfl (fun w hw => c_impl_timerValid N _ _ hx15 w) rfl rfl (kk_wd [0, 1] rfl ?_))
    refine wd_take (i := 2) [0, 1] rfl rfl rfl rfl rfl (by kernel_rfl) rfl (fun _ _ _ _ h => h) (yh_not rfl rfl) ?_
    refine wd_take (i := 3) [0, 1] rfl rfl rfl rfl rfl (by kernel_rfl) rfl (fun _ _ _ _ h => h) (yh_move rfl rfl) ?_
    refine wd_split 4 rfl rfl rfl (fun c2 => ?_) (fun c2 => ?_)
    · skip
      replace h := bt c2 h
      refine wd_skip (i := 4) [0, 1] rfl rfl rfl rfl (by kernel_rfl) rfl (fun _ _ _ h => h) ?_
      refine wd_skip (i := 5) [0, 1] rfl rfl rfl rfl (by kernel_rfl) rfl (fun _ _ _ h => h) ?_
      refine wd_skip (i := 6) [0, 1] rfl rfl rfl rfl (by kernel_rfl) rfl (fun _ _ _ h => h) ?_
      refine wd_skip (i := 7) [0, 1] rfl rfl rfl rfl (by kernel_rfl) rfl (fun _ _ _ h => h) ?_
      refine wd_take (i := 8) [0, 1] rfl rfl rfl rfl rfl (by kernel_rfl) rfl (fun _ _ _ _ h => h) (yh_pickT rfl rfl rfl) ?_
      refine wd_take (i := 9) [0, 1] rfl rfl rfl rfl rfl (by kernel_rfl) rfl (fun _ _ _ _ h => h) (yh_move rfl rfl) ?_
      refine wd_split 10 rfl rfl rfl (fun _ => ?_) nofun
      refine wd_skip (i := 10) [0, 1] rfl rfl rfl rfl (by kernel_rfl) rfl (fun _ _ _ h => h) ?_
      refine wd_skip (i := 11) [0, 1] rfl rfl rfl rfl (by kernel_rfl) rfl (fun _ _ _ h => h) ?_
      refine wd_skip (i := 12) [0, 1] rfl rfl rfl rfl (by kernel_rfl) rfl (fun _ _ _ h => h) ?_
      refine wd_skip (i := 13) [0, 1] rfl rfl rfl rfl (by kernel_rfl) rfl (fun _ _ _ h => h) ?_
      refine wd_skip (i := 14) [0, 1] rfl rfl rfl rfl (by kernel_rfl) rfl (fun _ _ _ h => h) ?_
      refine wd_skip (i := 15) [0, 1] rfl rfl rfl rfl (by kernel_rfl) rfl (fun _ _ _ h => h) ?_
      refine wd_skip (i := 16) [0, 1] rfl rfl rfl rfl (by kernel_rfl) rfl (fun _ _ _ h => h) ?_
      refine wd_skip (i := 17) [0, 1] rfl rfl rfl rfl (by kernel_rfl) rfl (fun _ _ _ h => h) ?_
      refine wd_skip (i := 18) [0, 1] rfl rfl rfl rfl (by kernel_rfl) rfl (fun _ _ _ h => h) ?_
      refine wd_offD 19 rfl rfl rfl rfl (by kernel_rfl) [0, 1] (fun _ => rfl) ?_
      refine wd_skip (i := 20) [0, 1] rfl rfl rfl rfl (by kernel_rfl) rfl (fun _ _ _ h => h) ?_
      refine wd_skip (i := 21) [0, 1] rfl rfl rfl rfl (by kernel_rfl) rfl (fun _ _ _ h => h) ?_
      refine wd_take (i := 22) [0, 1] rfl rfl rfl rfl rfl (by kernel_rfl) rfl (fun _ _ _ _ h => h) (yh_pickT rfl rfl rfl) ?_
      refine wd_done (by kernel_rfl) ?_
      refine ex_seq ?_
      refine cw_true rfl ?_
      refine cw_seq ?_
      refine cw_region ?_
      refine wl_u rfl (ow_y (yh_assign rfl rfl) rfl rfl (kk_wl ?_))
      refine wl_nil ?_
      refine ex_seq ?_
      refine cw_ret ?_
      refine ex_then_ret ?_
      refine ex_block_ret ?_
      refine ex_then_ret ?_
      refine ex_then_ret ?_
      refine ex_block_ret ?_
      refine ex_then_ret ?_
      obtain rfl := Option.some.inj h
      obtain rfl := go_ret hk6
      exact ex_r1 Tb rfl (.tmp rfl) (fun wq hq => ⟨_, rfl, hq.ext, rfl⟩)
    · skip
      replace h := bf c2 h
      refine wd_take (i := 4) [0, 1] rfl rfl rfl rfl rfl (by kernel_rfl) rfl (fun _ _ _ _ h => h) (yh_move rfl rfl) ?_
      refine wd_take (i := 5) [0, 1] rfl rfl rfl rfl rfl (by kernel_rfl) rfl (fun _ _ _ _ h => h) (yh_field Tb rfl rfl rfl) ?_
      refine wd_take (i := 6) [0, 1] rfl rfl rfl rfl rfl (by kernel_rfl) rfl (fun _ _ _ _ h => h) (yh_loadB Tb (k := 0) rfl rfl rfl rfl rfl) ?_
      refine wd_take (i := 7) [0, 1] rfl rfl rfl rfl rfl (by kernel_rfl) rfl (fun _ _ _ _ h => h) (yh_lookSet (i := 1) rfl rfl rfl rfl (by kernel_rfl)) ?_
      refine wd_take (i := 8) [0, 1] rfl rfl rfl rfl rfl (by kernel_rfl) rfl (fun _ _ _ _ h => h) (yh_pickF rfl rfl rfl) ?_
      refine wd_take (i := 9) [0, 1] rfl rfl rfl rfl rfl (by kernel_rfl) rfl (fun _ _ _ _ h => h) (yh_move rfl rfl) ?_
      refine wd_split 10 rfl rfl rfl (fun c3 => ?_) (fun c3 => ?_)
      · skip
        replace h := bt c3 h
        refine wd_skip (i := 10) [0, 1] rfl rfl rfl rfl (by kernel_rfl) rfl (fun _ _ _ h => h) ?_
        refine wd_skip (i := 11) [0, 1] rfl rfl rfl rfl (by kernel_rfl) rfl (fun _ _ _ h => h) ?_
        refine wd_skip (i := 12) [0, 1] rfl rfl rfl rfl (by kernel_rfl) rfl (fun _ _ _ h => h) ?_
        refine wd_skip (i := 13) [0, 1] rfl rfl rfl rfl (by kernel_rfl) rfl (fun _ _ _ h => h) ?_
        refine wd_skip (i := 14) [0, 1] rfl rfl rfl rfl (by kernel_rfl) rfl (fun _ _ _ h => h) ?_
        refine wd_skip (i := 15) [0, 1] rfl rfl rfl rfl (by kernel_rfl) rfl (fun _ _ _ h => h) ?_
        refine wd_skip (i := 16) [0, 1] rfl rfl rfl rfl (by kernel_rfl) rfl (fun _ _ _ h => h) ?_
        refine wd_skip (i := 17) [0, 1] rfl rfl rfl rfl (by kernel_rfl) rfl (fun _ _ _ h => h) ?_
        refine wd_skip (i := 18) [0, 1] rfl rfl rfl rfl (by kernel_rfl) rfl (fun _ _ _ h => h) ?_
        refine wd_offD 19 rfl rfl rfl rfl (by kernel_rfl) [0, 1] (fun _ => rfl) ?_
        refine wd_skip (i := 20) [0, 1] rfl rfl rfl rfl (by kernel_rfl) rfl (fun _ _ _ h => h) ?_
        refine wd_skip (i := 21) [0, 1] rfl rfl rfl rfl (by kernel_rfl) rfl (fun _ _ _ h => h) ?_
        refine wd_take (i := 22) [0, 1] rfl rfl rfl rfl rfl (by kernel_rfl) rfl (fun _ _ _ _ h => h) (yh_pickT rfl rfl rfl) ?_
        refine wd_done (by kernel_rfl) ?_
        refine ex_seq ?_
        refine cw_true rfl ?_
        refine cw_seq ?_
        refine cw_region ?_
        refine wl_u rfl (ow_y (yh_assign rfl rfl) rfl rfl (kk_wl ?_))
        refine wl_nil ?_
        refine ex_seq ?_
        refine cw_ret ?_
        refine ex_then_ret ?_
        refine ex_block_ret ?_
        refine ex_then_ret ?_
        refine ex_then_ret ?_
        refine ex_block_ret ?_
        refine ex_then_ret ?_
        obtain rfl := Option.some.inj h
        obtain rfl := go_ret hk6
        exact ex_r1 Tb rfl (.tmp rfl) (fun wq hq => ⟨_, rfl, hq.ext, rfl⟩)
      · skip
        replace h := bf c3 h
        refine wd_take (i := 10) [0, 1] rfl rfl rfl rfl rfl (by kernel_rfl) rfl (fun _ _ _ _ h => h) (yh_move rfl rfl) ?_
        refine wd_take (i := 11) [0, 1] rfl rfl rfl rfl rfl (by kernel_rfl) rfl (fun _ _ _ _ h => h) (yh_cmpI rfl rfl rfl rfl) ?_
        refine wd_take (i := 12) [0, 1] rfl rfl rfl rfl rfl (by kernel_rfl) rfl (fun _ _ _ _ h => h) (yh_move rfl rfl) ?_
        refine wd_split 13 rfl rfl rfl (fun c4 => ?_) (fun c4 => ?_)
        · skip
          replace h := bt c4 h
          have q2 := ltb_true.1 c4
          refine wd_take (i := 13) [0, 1] rfl rfl rfl rfl rfl (by kernel_rfl) rfl (fun _ _ _ _ h => h) (yh_move rfl rfl) ?_
          refine wd_take (i := 14) [0, 1] rfl rfl rfl rfl rfl (by kernel_rfl) rfl (fun _ _ _ _ h => h) (yh_move rfl rfl) ?_
          refine wd_take (i := 15) [0, 1] rfl rfl rfl rfl rfl (by kernel_rfl) rfl (fun _ _ _ _ h => h) (yh_arI rfl rfl rfl rfl (by omega)) ?_
          obtain ⟨y30, zy30, h⟩ := bd h
          obtain ⟨iy30, hy30⟩ := geti_some zy30
          have hc30 := get_timer h_list_ hy30
          refine wd_take (i := 16) [0, 1] rfl rfl rfl rfl rfl (by kernel_rfl) rfl (fun _ _ _ _ h => h) (yh_idx Tb (k := (((s9 : Nat) : Int) - 1).toNat) rfl rfl rfl iy30 (get_lt hy30) rfl rfl) ?_
          refine wd_take (i := 17) [0, 1] rfl rfl rfl rfl rfl (by kernel_rfl) rfl (fun _ _ _ _ h => h) (yh_loadAN Tb rfl rfl rfl rfl hc30 rfl) ?_
          refine wd_take (i := 18) [0, 1] rfl rfl rfl rfl rfl (by kernel_rfl) rfl (fun _ _ _ _ h => h) (yh_loadBA Tb (k := 0) rfl rfl rfl rfl rfl rfl) ?_
          obtain ⟨x33, hx33, h⟩ := bd h
          refine wd_one 19 rfl rfl (by kernel_rfl) (ow_cV rfl hb57 rfl (fun w hw => c_impl_compareTimers N _ _ _ hx33 w) rfl rfl (kk_wd [0, 1] rfl ?_))
          refine wd_take (i := 20) [0, 1] rfl rfl rfl rfl rfl (by kernel_rfl) rfl (fun _ _ _ _ h => h) (yh_cmpI rfl rfl rfl rfl) ?_
          refine wd_take (i := 21) [0, 1] rfl rfl rfl rfl rfl (by kernel_rfl) rfl (fun _ _ _ _ h => h) (yh_pickT rfl rfl rfl) ?_
          refine wd_take (i := 22) [0, 1] rfl rfl rfl rfl rfl (by kernel_rfl) rfl (fun _ _ _ _ h => h) (yh_pickF rfl rfl rfl) ?_
          refine wd_done (by kernel_rfl) ?_
          refine ex_seq ?_
          refine cw_split rfl (fun c5 => ?_) (fun c5 => ?_)
          · skip
            replace h := bt c5 h
            have q3 := leb_true.1 c5
            refine cw_seq ?_
            refine cw_region ?_
            refine wl_u rfl (ow_y (yh_assign rfl rfl) rfl rfl (kk_wl ?_))
            refine wl_nil ?_
            refine ex_seq ?_
            refine cw_ret ?_
            refine ex_then_ret ?_
            refine ex_block_ret ?_
            refine ex_then_ret ?_
            refine ex_then_ret ?_
            refine ex_block_ret ?_
            refine ex_then_ret ?_
            obtain rfl := Option.some.inj h
            obtain rfl := go_ret hk6
            exact ex_r1 Tb rfl (.tmp rfl) (fun wq hq => ⟨_, rfl, hq.ext, rfl⟩)
          · skip
            replace h := bf c5 h
            have q4 := leb_false.1 c5
            refine cw_skip ?_
            refine ex_seq ?_
            refine cw_region ?_
            refine wl_u rfl (ow_y (yh_move rfl rfl) rfl rfl (kk_wl ?_))
            refine wl_u rfl (ow_y (yh_field Tb rfl rfl rfl) rfl rfl (kk_wl ?_))
            refine wl_u rfl (ow_y (yh_loadB Tb (k := 0) rfl rfl rfl rfl rfl) rfl rfl (kk_wl ?_))
            refine wl_u rfl (ow_putSet (i := 1) rfl rfl rfl rfl rfl (by kernel_rfl) c3 rfl (kk_wl ?_))
            refine wl_nil ?_
            refine ex_block_normal ?_
            refine ex_seq ?_
            refine cw_region ?_
            refine wl_u rfl (ow_y (yh_arI rfl rfl rfl rfl (by omega)) rfl rfl (kk_wl ?_))
            refine wl_u rfl (ow_y (yh_move rfl rfl) rfl rfl (kk_wl ?_))
            refine wl_nil ?_
            exact ex_next [0] (hn6 (n6, (s3 ++ [y12.name]), s9 + 1) (Nat.lt_succ_self _) h) ⟨rfl, rfl, rfl, rfl, rfl, trivial⟩ rfl
        · skip
          replace h := bf c4 h
          have q5 := ltb_false.1 c4
          refine wd_skip (i := 13) [0, 1] rfl rfl rfl rfl (by kernel_rfl) rfl (fun _ _ _ h => h) ?_
          refine wd_skip (i := 14) [0, 1] rfl rfl rfl rfl (by kernel_rfl) rfl (fun _ _ _ h => h) ?_
          refine wd_skip (i := 15) [0, 1] rfl rfl rfl rfl (by kernel_rfl) rfl (fun _ _ _ h => h) ?_
          refine wd_skip (i := 16) [0, 1] rfl rfl rfl rfl (by kernel_rfl) rfl (fun _ _ _ h => h) ?_
          refine wd_skip (i := 17) [0, 1] rfl rfl rfl rfl (by kernel_rfl) rfl (fun _ _ _ h => h) ?_
          refine wd_skip (i := 18) [0, 1] rfl rfl rfl rfl (by kernel_rfl) rfl (fun _ _ _ h => h) ?_
          refine wd_offD 19 rfl rfl rfl rfl (by kernel_rfl) [0, 1] (fun _ => rfl) ?_
          refine wd_skip (i := 20) [0, 1] rfl rfl rfl rfl (by kernel_rfl) rfl (fun _ _ _ h => h) ?_
          refine wd_take (i := 21) [0, 1] rfl rfl rfl rfl rfl (by kernel_rfl) rfl (fun _ _ _ _ h => h) (yh_pickF rfl rfl rfl) ?_
          refine wd_take (i := 22) [0, 1] rfl rfl rfl rfl rfl (by kernel_rfl) rfl (fun _ _ _ _ h => h) (yh_pickF rfl rfl rfl) ?_
          refine wd_done (by kernel_rfl) ?_
          refine ex_seq ?_
          refine cw_false rfl ?_
          refine cw_skip ?_
          refine ex_seq ?_
          refine cw_region ?_
          refine wl_u rfl (ow_y (yh_move rfl rfl) rfl rfl (kk_wl ?_))
          refine wl_u rfl (ow_y (yh_field Tb rfl rfl rfl) rfl rfl (kk_wl ?_))
          refine wl_u rfl (ow_y (yh_loadB Tb (k := 0) rfl rfl rfl rfl rfl) rfl rfl (kk_wl ?_))
          refine wl_u rfl (ow_putSet (i := 1) rfl rfl rfl rfl rfl (by kernel_rfl) c3 rfl (kk_wl ?_))
          refine wl_nil ?_
          refine ex_block_normal ?_
          refine ex_seq ?_
          refine cw_region ?_
          refine wl_u rfl (ow_y (yh_arI rfl rfl rfl rfl (by omega)) rfl rfl (kk_wl ?_))
          refine wl_u rfl (ow_y (yh_move rfl rfl) rfl rfl (kk_wl ?_))
          refine wl_nil ?_
          exact ex_next [0] (hn6 (n6, (s3 ++ [y12.name]), s9 + 1) (Nat.lt_succ_self _) h) ⟨rfl, rfl, rfl, rfl, rfl, trivial⟩ rfl
  · skip
    replace h := bf c1 h
    have q6 := ltb_false.1 c1
    refine cw_exit ?_
    refine ex_then_exit ?_
    refine ex_then_exit ?_
    obtain rfl := Option.some.inj h
    have h := go_brk hk6
    refine ex_block_exit ?_
    refine ex_seq ?_
    refine cw_seq ?_
    refine cw_region ?_
    refine wl_u rfl (ow_y (yh_move rfl rfl) rfl rfl (kk_wl ?_))
    refine wl_u rfl (ow_y (yh_lenS Tb rfl rfl rfl rfl) rfl rfl (kk_wl ?_))
    refine wl_u rfl (ow_y (yh_cmpI rfl rfl rfl rfl) rfl rfl (kk_wl ?_))
    refine wl_u rfl (ow_y (yh_assign rfl rfl) rfl rfl (kk_wl ?_))
    refine wl_nil ?_
    refine ex_seq ?_
    refine cw_ret ?_
    obtain rfl := Option.some.inj h
    exact ex_r1 Tb rfl (.tmp rfl) (fun wq hq => ⟨_, rfl, hq.ext, rfl⟩)

def m_spec_l6In (N : Nat) (n_ : Int) (low : Int) (high : Int) : Option (Bool) := (bif leb low n_ then some (leb n_ high)
 else some false)

set_option maxHeartbeats 4000000 in
theorem c_spec_l6In (N : Nat) (n_ : Int) (low : Int) (high : Int) (res : Bool) (h : m_spec_l6In N n_ low high = some res) (w : World) : Ret Try.prog 58 [.int .i64 n_, .int .i64 low, .int .i64 high] w [] fun v w' => v = .bool res := by
  unfold m_spec_l6In at h
  refine ret_enter Try.func58 rfl Try.ntmps58 rfl (Hp.refl w _) ?_
  refine cw_seq ?_
  refine cw_region ?_
  refine wl_u rfl (ow_y (yh_assign rfl rfl) rfl rfl (kk_wl ?_))
  refine wl_nil ?_
  refine ex_seq ?_
  refine cw_seq ?_
  refine cw_region ?_
  refine wl_u rfl (ow_y (yh_move rfl rfl) rfl rfl (kk_wl ?_))
  refine wl_u rfl (ow_y (yh_move rfl rfl) rfl rfl (kk_wl ?_))
  refine wl_u rfl (ow_y (yh_cmpI rfl rfl rfl rfl) rfl rfl (kk_wl ?_))
  refine wl_u rfl (ow_y (yh_move rfl rfl) rfl rfl (kk_wl ?_))
  refine wl_s rfl rfl (fun c1 => ?_) (fun c1 => ?_)
  · skip
    replace h := bt c1 h
    have q1 := leb_true.1 c1
    refine wl_g rfl rfl (ow_y (yh_move rfl rfl) rfl rfl (kk_wl ?_))
    refine wl_g rfl rfl (ow_y (yh_move rfl rfl) rfl rfl (kk_wl ?_))
    refine wl_g rfl rfl (ow_y (yh_cmpI rfl rfl rfl rfl) rfl rfl (kk_wl ?_))
    refine wl_u rfl (ow_y (yh_pickT rfl rfl rfl) rfl rfl (kk_wl ?_))
    refine wl_u rfl (ow_y (yh_assign rfl rfl) rfl rfl (kk_wl ?_))
    refine wl_nil ?_
    refine ex_seq ?_
    refine cw_ret ?_
    obtain rfl := Option.some.inj h
    exact ex_r1 Tb rfl (.tmp rfl) (fun wq hq => ⟨_, rfl, hq.ext, rfl⟩)
  · skip
    replace h := bf c1 h
    have q2 := leb_false.1 c1
    refine wl_n rfl rfl rfl rfl ?_
    refine wl_n rfl rfl rfl rfl ?_
    refine wl_n rfl rfl rfl rfl ?_
    refine wl_u rfl (ow_y (yh_pickF rfl rfl rfl) rfl rfl (kk_wl ?_))
    refine wl_u rfl (ow_y (yh_assign rfl rfl) rfl rfl (kk_wl ?_))
    refine wl_nil ?_
    refine ex_seq ?_
    refine cw_ret ?_
    obtain rfl := Option.some.inj h
    exact ex_r1 Tb rfl (.tmp rfl) (fun wq hq => ⟨_, rfl, hq.ext, rfl⟩)

def m_spec_NameValid_L4 (N : Nat) (s_ : Str) : Nat → Nat → Option (Ex (Nat) (Bool))
  | 0, _ => none
  | n + 1, s3 => (ssz s_).bind fun z6 => (bif ltb ((s3 : Nat) : Int) ((s_.size : Nat) : Int) then (bget s_ s3).bind fun y12 => (bif ltb ((y12 : Nat) : Int) 97 then some (Ex.ret false)
 else (bget s_ s3).bind fun y17 => (bif ltb 122 ((y17 : Nat) : Int) then some (Ex.ret false)
 else m_spec_NameValid_L4 N s_ n (s3 + 1)))
 else some (Ex.brk (s3)))

def m_spec_NameValid (N : Nat) (s_ : Str) : Option (Bool) := (m_spec_NameValid_L4 N s_ N 0).bind fun e4 => e4.go (fun r => r) fun b4 => (m_spec_l6In N ((s_.size : Nat) : Int) 1 5).bind fun x22 => some x22

set_option maxHeartbeats 4000000 in
theorem c_spec_NameValid (N : Nat) (s_ : Str) (res : Bool) (h : m_spec_NameValid N s_ = some res) (w : World) : Ret Try.prog 59 [.string s_] w [] fun v w' => v = .bool res := by
  unfold m_spec_NameValid at h
  refine ret_enter Try.func59 rfl Try.ntmps59 rfl (Hp.refl w _) ?_
  refine cw_seq ?_
  refine cw_region ?_
  refine wl_u rfl (ow_y (yh_assign rfl rfl) rfl rfl (kk_wl ?_))
  refine wl_nil ?_
  refine ex_seq ?_
  refine cw_seq ?_
  refine cw_seq ?_
  refine cw_region ?_
  refine wl_u rfl (ow_y (yh_assign rfl rfl) rfl rfl (kk_wl ?_))
  refine wl_nil ?_
  refine ex_seq ?_
  refine cw_block ?_
  obtain ⟨e4, he4, hk4⟩ := bd h
  clear h
  refine cw_loopG (σ := Nat × Nat) (fun s => m_spec_NameValid_L4 N s_ s.1 s.2 = some e4) (fun s => [(0, .string s_), (3, .int .i64 ((s.2 : Nat) : Int))]) (fun s => []) (fun s => s.1) (N, 0) [] he4 ⟨rfl, rfl, trivial⟩ rfl (fun KL s he4 hn4 => ?_)
  obtain ⟨n4, s3⟩ := s
  simp only at he4 hn4 ⊢
  rcases n4 with _ | n4
  · exact nosome he4
  have h := he4; rw [m_spec_NameValid_L4] at h
  refine cw_seq ?_
  refine cw_seq ?_
  refine cw_region ?_
  refine wl_u rfl (ow_y (yh_move rfl rfl) rfl rfl (kk_wl ?_))
  refine wl_u rfl (ow_y (yh_move rfl rfl) rfl rfl (kk_wl ?_))
  obtain ⟨z6, hz6, h⟩ := bd h
  have mz6 := ssz_some hz6
  refine wl_u rfl (ow_y (yh_lenT Tb rfl rfl rfl rfl) rfl rfl (kk_wl ?_))
  refine wl_u rfl (ow_y (yh_cmpI rfl rfl rfl rfl) rfl rfl (kk_wl ?_))
  refine wl_nil ?_
  refine ex_seq ?_
  refine cw_split rfl (fun c1 => ?_) (fun c1 => ?_)
  · skip
    replace h := bt c1 h
    have q1 := ltb_true.1 c1
    refine cw_skip ?_
    refine ex_seq ?_
    refine cw_seq ?_
    refine cw_block ?_
    refine cw_seq ?_
    refine cw_region ?_
    refine wl_u rfl (ow_y (yh_move rfl rfl) rfl rfl (kk_wl ?_))
    refine wl_u rfl (ow_y (yh_move rfl rfl) rfl rfl (kk_wl ?_))
    obtain ⟨y12, hy12, h⟩ := bd h
    refine wl_u rfl (ow_y (yh_indexS Tb (k := s3) rfl rfl rfl rfl hy12 rfl) rfl rfl (kk_wl ?_))
    refine wl_u rfl (ow_y (yh_cmpI rfl rfl rfl rfl) rfl rfl (kk_wl ?_))
    refine wl_u rfl (ow_y (yh_move rfl rfl) rfl rfl (kk_wl ?_))
    refine wl_s rfl rfl (fun c2 => ?_) (fun c2 => ?_)
    · skip
      replace h := bt c2 h
      have q2 := ltb_true.1 c2
      refine wl_n rfl rfl rfl rfl ?_
      refine wl_n rfl rfl rfl rfl ?_
      refine wl_n rfl rfl rfl rfl ?_
      refine wl_n rfl rfl rfl rfl ?_
      refine wl_u rfl (ow_y (yh_pickT rfl rfl rfl) rfl rfl (kk_wl ?_))
      refine wl_nil ?_
      refine ex_seq ?_
      refine cw_true rfl ?_
      refine cw_seq ?_
      refine cw_region ?_
      refine wl_u rfl (ow_y (yh_assign rfl rfl) rfl rfl (kk_wl ?_))
      refine wl_nil ?_
      refine ex_seq ?_
      refine cw_ret ?_
      refine ex_block_ret ?_
      refine ex_then_ret ?_
      refine ex_then_ret ?_
      refine ex_block_ret ?_
      refine ex_then_ret ?_
      obtain rfl := Option.some.inj h
      obtain rfl := go_ret hk4
      exact ex_r1 Tb rfl (.tmp rfl) (fun wq hq => ⟨_, rfl, hq.ext, rfl⟩)
    · skip
      replace h := bf c2 h
      have q3 := ltb_false.1 c2
      refine wl_g rfl rfl (ow_y (yh_move rfl rfl) rfl rfl (kk_wl ?_))
      refine wl_g rfl rfl (ow_y (yh_move rfl rfl) rfl rfl (kk_wl ?_))
      obtain ⟨y17, hy17, h⟩ := bd h
      refine wl_g rfl rfl (ow_y (yh_indexS Tb (k := s3) rfl rfl rfl rfl hy17 rfl) rfl rfl (kk_wl ?_))
      refine wl_g rfl rfl (ow_y (yh_cmpI rfl rfl rfl rfl) rfl rfl (kk_wl ?_))
      refine wl_u rfl (ow_y (yh_pickF rfl rfl rfl) rfl rfl (kk_wl ?_))
      refine wl_nil ?_
      refine ex_seq ?_
      refine cw_split rfl (fun c3 => ?_) (fun c3 => ?_)
      · skip
        replace h := bt c3 h
        have q4 := ltb_true.1 c3
        refine cw_seq ?_
        refine cw_region ?_
        refine wl_u rfl (ow_y (yh_assign rfl rfl) rfl rfl (kk_wl ?_))
        refine wl_nil ?_
        refine ex_seq ?_
        refine cw_ret ?_
        refine ex_block_ret ?_
        refine ex_then_ret ?_
        refine ex_then_ret ?_
        refine ex_block_ret ?_
        refine ex_then_ret ?_
        obtain rfl := Option.some.inj h
        obtain rfl := go_ret hk4
        exact ex_r1 Tb rfl (.tmp rfl) (fun wq hq => ⟨_, rfl, hq.ext, rfl⟩)
      · skip
        replace h := bf c3 h
        have q5 := ltb_false.1 c3
        refine cw_skip ?_
        refine ex_block_normal ?_
        refine ex_seq ?_
        refine cw_region ?_
        refine wl_u rfl (ow_y (yh_move rfl rfl) rfl rfl (kk_wl ?_))
        refine wl_u rfl (ow_y (yh_arI rfl rfl rfl rfl (by omega)) rfl rfl (kk_wl ?_))
        refine wl_u rfl (ow_y (yh_assign rfl rfl) rfl rfl (kk_wl ?_))
        refine wl_nil ?_
        exact ex_next [] (hn4 (n4, s3 + 1) (Nat.lt_succ_self _) h) ⟨rfl, rfl, trivial⟩ rfl
  · skip
    replace h := bf c1 h
    have q6 := ltb_false.1 c1
    refine cw_exit ?_
    refine ex_then_exit ?_
    refine ex_then_exit ?_
    obtain rfl := Option.some.inj h
    have h := go_brk hk4
    refine ex_block_exit ?_
    refine ex_seq ?_
    refine cw_seq ?_
    refine cw_region ?_
    refine wl_u rfl (ow_y (yh_move rfl rfl) rfl rfl (kk_wl ?_))
    refine wl_u rfl (ow_y (yh_lenT Tb rfl rfl rfl rfl) rfl rfl (kk_wl ?_))
    obtain ⟨x22, hx22, h⟩ := bd h
    refine wl_u rfl (ow_cV rfl hb58 rfl (fun w hw => c_spec_l6In N _ _ _ _ hx22 w) rfl rfl (kk_wl ?_))
    refine wl_u rfl (ow_y (yh_assign rfl rfl) rfl rfl (kk_wl ?_))
    refine wl_nil ?_
    refine ex_seq ?_
    refine cw_ret ?_
    obtain rfl := Option.some.inj h
    exact ex_r1 Tb rfl (.tmp rfl) (fun wq hq => ⟨_, rfl, hq.ext, rfl⟩)

def m_spec_l15At_L4 (N : Nat) (list_ : List Timer) (name : Str) : Nat → Nat → Option (Ex (Nat) (Int))
  | 0, _ => none
  | n + 1, s5 => (bif ltb ((s5 : Nat) : Int) ((list_.length : Nat) : Int) then (list_[s5]?).bind fun y14 => (bif seq y14.name name then some (Ex.ret ((s5 : Nat) : Int))
 else m_spec_l15At_L4 N list_ name n (s5 + 1))
 else some (Ex.brk (s5)))

def m_spec_l15At (N : Nat) (list_ : List Timer) (name : Str) : Option (Int) := (m_spec_l15At_L4 N list_ name N 0).bind fun e4 => e4.go (fun r => r) fun b4 => some (-1)

set_option maxHeartbeats 4000000 in
theorem c_spec_l15At (N : Nat) (list_ : List Timer) (name : Str) (res : Int) (h : m_spec_l15At N list_ name = some res) (w : World) {a_list_ : Option Addr} {c_list_ : Nat} (h_list_ : timersL.rd w [] [.slice a_list_ list_.length c_list_] list_) : Ret Try.prog 60 [.slice a_list_ list_.length c_list_, .string name] w [] fun v w' => v = .int .i64 res := by
  have mh_list_ := rd_max h_list_
  unfold m_spec_l15At at h
  refine ret_enter Try.func60 rfl Try.ntmps60 rfl (Hp.refl w _) ?_
  refine cw_seq ?_
  refine cw_region ?_
  refine wl_u rfl (ow_y (yh_assign rfl rfl) rfl rfl (kk_wl ?_))
  refine wl_nil ?_
  refine ex_seq ?_
  refine cw_seq ?_
  refine cw_seq ?_
  refine cw_region ?_
  refine wl_u rfl (ow_y (yh_assign rfl rfl) rfl rfl (kk_wl ?_))
  refine wl_nil ?_
  refine ex_seq ?_
  refine cw_block ?_
  obtain ⟨e4, he4, hk4⟩ := bd h
  clear h
  refine cw_loopG (σ := Nat × Nat) (fun s => m_spec_l15At_L4 N list_ name s.1 s.2 = some e4) (fun s => [(0, .slice a_list_ list_.length c_list_), (1, .string name), (5, .int .i64 ((s.2 : Nat) : Int))]) (fun s => []) (fun s => s.1) (N, 0) [] he4 ⟨rfl, rfl, rfl, trivial⟩ rfl (fun KL s he4 hn4 => ?_)
  obtain ⟨n4, s5⟩ := s
  simp only at he4 hn4 ⊢
  rcases n4 with _ | n4
  · exact nosome he4
  have h := he4; rw [m_spec_l15At_L4] at h
  refine cw_seq ?_
  refine cw_seq ?_
  refine cw_region ?_
  refine wl_u rfl (ow_y (yh_move rfl rfl) rfl rfl (kk_wl ?_))
  refine wl_u rfl (ow_y (yh_move rfl rfl) rfl rfl (kk_wl ?_))
  refine wl_u rfl (ow_y (yh_lenS Tb rfl rfl rfl rfl) rfl rfl (kk_wl ?_))
  refine wl_u rfl (ow_y (yh_cmpI rfl rfl rfl rfl) rfl rfl (kk_wl ?_))
  refine wl_nil ?_
  refine ex_seq ?_
  refine cw_split rfl (fun c1 => ?_) (fun c1 => ?_)
  · skip
    replace h := bt c1 h
    have q1 := ltb_true.1 c1
    refine cw_skip ?_
    refine ex_seq ?_
    refine cw_seq ?_
    refine cw_block ?_
    refine cw_seq ?_
    refine cw_region ?_
    refine wl_u rfl (ow_y (yh_move rfl rfl) rfl rfl (kk_wl ?_))
    refine wl_u rfl (ow_y (yh_move rfl rfl) rfl rfl (kk_wl ?_))
    obtain ⟨y14, hy14, h⟩ := bd h
    obtain ⟨b14, o14, ha14⟩ := sl_addr h_list_ hy14
    subst ha14
    have hc14 := get_timer h_list_ hy14
    refine wl_u rfl (ow_y (yh_idx Tb (k := s5) rfl rfl rfl rfl (get_lt hy14) rfl rfl) rfl rfl (kk_wl ?_))
    refine wl_u rfl (ow_y (yh_field Tb rfl rfl rfl) rfl rfl (kk_wl ?_))
    refine wl_u rfl (ow_y (yh_loadAF Tb (j := 1) rfl rfl rfl hc14 rfl) rfl rfl (kk_wl ?_))
    refine wl_u rfl (ow_y (yh_move rfl rfl) rfl rfl (kk_wl ?_))
    refine wl_u rfl (ow_y (yh_cmpS rfl rfl rfl rfl) rfl rfl (kk_wl ?_))
    refine wl_nil ?_
    refine ex_seq ?_
    refine cw_split rfl (fun c2 => ?_) (fun c2 => ?_)
    · skip
      replace h := bt c2 h
      refine cw_seq ?_
      refine cw_region ?_
      refine wl_u rfl (ow_y (yh_move rfl rfl) rfl rfl (kk_wl ?_))
      refine wl_u rfl (ow_y (yh_assign rfl rfl) rfl rfl (kk_wl ?_))
      refine wl_nil ?_
      refine ex_seq ?_
      refine cw_ret ?_
      refine ex_block_ret ?_
      refine ex_then_ret ?_
      refine ex_then_ret ?_
      refine ex_block_ret ?_
      refine ex_then_ret ?_
      obtain rfl := Option.some.inj h
      obtain rfl := go_ret hk4
      exact ex_r1 Tb rfl (.tmp rfl) (fun wq hq => ⟨_, rfl, hq.ext, rfl⟩)
    · skip
      replace h := bf c2 h
      refine cw_skip ?_
      refine ex_block_normal ?_
      refine ex_seq ?_
      refine cw_region ?_
      refine wl_u rfl (ow_y (yh_move rfl rfl) rfl rfl (kk_wl ?_))
      refine wl_u rfl (ow_y (yh_arI rfl rfl rfl rfl (by omega)) rfl rfl (kk_wl ?_))
      refine wl_u rfl (ow_y (yh_assign rfl rfl) rfl rfl (kk_wl ?_))
      refine wl_nil ?_
      exact ex_next [] (hn4 (n4, s5 + 1) (Nat.lt_succ_self _) h) ⟨rfl, rfl, rfl, trivial⟩ rfl
  · skip
    replace h := bf c1 h
    have q2 := ltb_false.1 c1
    refine cw_exit ?_
    refine ex_then_exit ?_
    refine ex_then_exit ?_
    obtain rfl := Option.some.inj h
    have h := go_brk hk4
    refine ex_block_exit ?_
    refine ex_seq ?_
    refine cw_seq ?_
    refine cw_region ?_
    refine wl_u rfl (ow_y (yh_assign rfl rfl) rfl rfl (kk_wl ?_))
    refine wl_nil ?_
    refine ex_seq ?_
    refine cw_ret ?_
    obtain rfl := Option.some.inj h
    exact ex_r1 Tb rfl (.tmp rfl) (fun wq hq => ⟨_, rfl, hq.ext, rfl⟩)

def m_spec_l15Before (N : Nat) (a : Timer) (b : Timer) : Option (Bool) := (bif ltb a.at_ b.at_ then some true
 else (bif eqb a.at_ b.at_ then some (slt a.name b.name)
 else some false))

set_option maxHeartbeats 4000000 in
theorem c_spec_l15Before (N : Nat) (a : Timer) (b : Timer) (res : Bool) (h : m_spec_l15Before N a b = some res) (w : World) : Ret Try.prog 61 [.agg #[.int .i64 a.at_, .string a.name], .agg #[.int .i64 b.at_, .string b.name]] w [] fun v w' => v = .bool res := by
  unfold m_spec_l15Before at h
  refine ret_enter Try.func61 rfl Try.ntmps61 rfl (Hp.refl w _) ?_
  refine cw_seq ?_
  refine cw_region ?_
  refine wl_u rfl (ow_boxA rfl rfl rfl rfl (fun g2 => kk_wl ?_))
  refine wl_u rfl (ow_boxA rfl rfl rfl rfl (fun g3 => kk_wl ?_))
  refine wl_u rfl (ow_y (yh_assign rfl rfl) rfl rfl (kk_wl ?_))
  refine wl_nil ?_
  refine ex_seq ?_
  refine cw_seq ?_
  refine cw_region ?_
  refine wl_u rfl (ow_y (yh_field Tb rfl rfl rfl) rfl rfl (kk_wl ?_))
  refine wl_u rfl (ow_y (yh_loadB Tb (k := 1) rfl rfl rfl rfl rfl) rfl rfl (kk_wl ?_))
  refine wl_u rfl (ow_y (yh_field Tb rfl rfl rfl) rfl rfl (kk_wl ?_))
  refine wl_u rfl (ow_y (yh_loadB Tb (k := 0) rfl rfl rfl rfl rfl) rfl rfl (kk_wl ?_))
  refine wl_u rfl (ow_y (yh_cmpI rfl rfl rfl rfl) rfl rfl (kk_wl ?_))
  refine wl_u rfl (ow_y (yh_move rfl rfl) rfl rfl (kk_wl ?_))
  refine wl_s rfl rfl (fun c1 => ?_) (fun c1 => ?_)
  · skip
    replace h := bt c1 h
    have q1 := ltb_true.1 c1
    refine wl_n rfl rfl rfl rfl ?_
    refine wl_n rfl rfl rfl rfl ?_
    refine wl_n rfl rfl rfl rfl ?_
    refine wl_n rfl rfl rfl rfl ?_
    refine wl_n rfl rfl rfl rfl ?_
    refine wl_n rfl rfl rfl rfl ?_
    refine wl_n rfl rfl rfl rfl ?_
    refine wl_n rfl rfl rfl rfl ?_
    refine wl_n rfl rfl rfl rfl ?_
    refine wl_n rfl rfl rfl rfl ?_
    refine wl_n rfl rfl rfl rfl ?_
    refine wl_n rfl rfl rfl rfl ?_
    refine wl_u rfl (ow_y (yh_pickT rfl rfl rfl) rfl rfl (kk_wl ?_))
    refine wl_u rfl (ow_y (yh_assign rfl rfl) rfl rfl (kk_wl ?_))
    refine wl_nil ?_
    refine ex_seq ?_
    refine cw_ret ?_
    obtain rfl := Option.some.inj h
    exact ex_r1 Tb rfl (.tmp rfl) (fun wq hq => ⟨_, rfl, hq.ext, rfl⟩)
  · skip
    replace h := bf c1 h
    have q2 := ltb_false.1 c1
    refine wl_g rfl rfl (ow_y (yh_field Tb rfl rfl rfl) rfl rfl (kk_wl ?_))
    refine wl_g rfl rfl (ow_y (yh_loadB Tb (k := 1) rfl rfl rfl rfl rfl) rfl rfl (kk_wl ?_))
    refine wl_g rfl rfl (ow_y (yh_field Tb rfl rfl rfl) rfl rfl (kk_wl ?_))
    refine wl_g rfl rfl (ow_y (yh_loadB Tb (k := 0) rfl rfl rfl rfl rfl) rfl rfl (kk_wl ?_))
    refine wl_g rfl rfl (ow_y (yh_cmpI rfl rfl rfl rfl) rfl rfl (kk_wl ?_))
    refine wl_g rfl rfl (ow_y (yh_move rfl rfl) rfl rfl (kk_wl ?_))
    refine wl_s rfl rfl (fun c2 => ?_) (fun c2 => ?_)
    · skip
      replace h := bt c2 h
      have q3 := eqb_true.1 c2
      refine wl_g rfl rfl (ow_y (yh_field Tb rfl rfl rfl) rfl rfl (kk_wl ?_))
      refine wl_g rfl rfl (ow_y (yh_loadB Tb (k := 1) rfl rfl rfl rfl rfl) rfl rfl (kk_wl ?_))
      refine wl_g rfl rfl (ow_y (yh_field Tb rfl rfl rfl) rfl rfl (kk_wl ?_))
      refine wl_g rfl rfl (ow_y (yh_loadB Tb (k := 0) rfl rfl rfl rfl rfl) rfl rfl (kk_wl ?_))
      refine wl_g rfl rfl (ow_y (yh_cmpS rfl rfl rfl rfl) rfl rfl (kk_wl ?_))
      refine wl_g rfl rfl (ow_y (yh_pickT rfl rfl rfl) rfl rfl (kk_wl ?_))
      refine wl_u rfl (ow_y (yh_pickF rfl rfl rfl) rfl rfl (kk_wl ?_))
      refine wl_u rfl (ow_y (yh_assign rfl rfl) rfl rfl (kk_wl ?_))
      refine wl_nil ?_
      refine ex_seq ?_
      refine cw_ret ?_
      obtain rfl := Option.some.inj h
      exact ex_r1 Tb rfl (.tmp rfl) (fun wq hq => ⟨_, rfl, hq.ext, rfl⟩)
    · skip
      replace h := bf c2 h
      have q4 := eqb_false.1 c2
      refine wl_n rfl rfl rfl rfl ?_
      refine wl_n rfl rfl rfl rfl ?_
      refine wl_n rfl rfl rfl rfl ?_
      refine wl_n rfl rfl rfl rfl ?_
      refine wl_n rfl rfl rfl rfl ?_
      refine wl_g rfl rfl (ow_y (yh_pickF rfl rfl rfl) rfl rfl (kk_wl ?_))
      refine wl_u rfl (ow_y (yh_pickF rfl rfl rfl) rfl rfl (kk_wl ?_))
      refine wl_u rfl (ow_y (yh_assign rfl rfl) rfl rfl (kk_wl ?_))
      refine wl_nil ?_
      refine ex_seq ?_
      refine cw_ret ?_
      obtain rfl := Option.some.inj h
      exact ex_r1 Tb rfl (.tmp rfl) (fun wq hq => ⟨_, rfl, hq.ext, rfl⟩)

def m_spec_TimersValid_L5 (N : Nat) (list_ : List Timer) : Nat → Nat → Option (Ex (Nat) (Bool))
  | 0, _ => none
  | n + 1, s3 => (bif ltb ((s3 : Nat) : Int) ((list_.length : Nat) : Int) then (list_[s3]?).bind fun y12 => (m_spec_l6In N y12.at_ 0 9999).bind fun x15 => (bif !x15 then some (Ex.ret false)
 else (m_spec_NameValid N y12.name).bind fun x23 => (bif !x23 then some (Ex.ret false)
 else (m_spec_l15At N list_ y12.name).bind fun x33 => (bif ltb x33 ((s3 : Nat) : Int) then some (Ex.ret false)
 else (bif ltb 0 ((s3 : Nat) : Int) then (geti list_ (((s3 : Nat) : Int) - 1)).bind fun y44 => (m_spec_l15Before N y44 y12).bind fun x50 => (bif !x50 then some (Ex.ret false)
 else m_spec_TimersValid_L5 N list_ n (s3 + 1))
 else m_spec_TimersValid_L5 N list_ n (s3 + 1)))))
 else some (Ex.brk (s3)))

def m_spec_TimersValid (N : Nat) (list_ : List Timer) : Option (Bool) := (m_spec_TimersValid_L5 N list_ N 0).bind fun e5 => e5.go (fun r => r) fun b5 => some (leb ((list_.length : Nat) : Int) 8)

set_option maxHeartbeats 4000000 in
theorem c_spec_TimersValid (N : Nat) (list_ : List Timer) (res : Bool) (h : m_spec_TimersValid N list_ = some res) (w : World) {a_list_ : Option Addr} {c_list_ : Nat} (h_list_ : timersL.rd w [] [.slice a_list_ list_.length c_list_] list_) : Ret Try.prog 16 [.slice a_list_ list_.length c_list_] w [] fun v w' => v = .bool res := by
  have mh_list_ := rd_max h_list_
  unfold m_spec_TimersValid at h
  refine ret_enter Try.func16 rfl Try.ntmps16 rfl (Hp.refl w _) ?_
  refine cw_seq ?_
  refine cw_region ?_
  refine wl_u rfl (ow_y (yh_assign rfl rfl) rfl rfl (kk_wl ?_))
  refine wl_nil ?_
  refine ex_seq ?_
  refine cw_seq ?_
  refine cw_seq ?_
  refine cw_region ?_
  refine wl_u rfl (ow_y (yh_assign rfl rfl) rfl rfl (kk_wl ?_))
  refine wl_nil ?_
  refine ex_seq ?_
  refine cw_block ?_
  obtain ⟨e5, he5, hk5⟩ := bd h
  clear h
  refine cw_loopG (σ := Nat × Nat) (fun s => m_spec_TimersValid_L5 N list_ s.1 s.2 = some e5) (fun s => [(0, .slice a_list_ list_.length c_list_), (3, .int .i64 ((s.2 : Nat) : Int))]) (fun s => []) (fun s => s.1) (N, 0) [] he5 ⟨rfl, rfl, trivial⟩ rfl (fun KL s he5 hn5 => ?_)
  obtain ⟨n5, s3⟩ := s
  simp only at he5 hn5 ⊢
  rcases n5 with _ | n5
  · exact nosome he5
  have h := he5; rw [m_spec_TimersValid_L5] at h
  refine cw_seq ?_
  refine cw_seq ?_
  refine cw_region ?_
  refine wl_u rfl (ow_y (yh_move rfl rfl) rfl rfl (kk_wl ?_))
  refine wl_u rfl (ow_y (yh_move rfl rfl) rfl rfl (kk_wl ?_))
  refine wl_u rfl (ow_y (yh_lenS Tb rfl rfl rfl rfl) rfl rfl (kk_wl ?_))
  refine wl_u rfl (ow_y (yh_cmpI rfl rfl rfl rfl) rfl rfl (kk_wl ?_))
  refine wl_nil ?_
  refine ex_seq ?_
  refine cw_split rfl (fun c1 => ?_) (fun c1 => ?_)
  · skip
    replace h := bt c1 h
    have q1 := ltb_true.1 c1
    refine cw_skip ?_
    refine ex_seq ?_
    refine cw_seq ?_
    refine cw_block ?_
    refine cw_seq ?_
    refine cw_dr [0, 1, 2, 3, 4, 6, 7, 8, 9, 10, 11, 12, 14, 15, 16, 17, 18, 19, 20, 21, 22, 24, 25, 26, 27, 28, 29, 30, 31, 32, 33, 34, 35, 36, 37, 38, 39, 41, 42, 43] [] [] (by kernel_rfl) ?_
    refine wd_take (i := 0) [] rfl rfl rfl rfl rfl (by kernel_rfl) rfl (fun _ _ _ _ h => h) (yh_move rfl rfl) ?_
    refine wd_take (i := 1) [] rfl rfl rfl rfl rfl (by kernel_rfl) rfl (fun _ _ _ _ h => h) (yh_move rfl rfl) ?_
    obtain ⟨y12, hy12, h⟩ := bd h
    obtain ⟨b12, o12, ha12⟩ := sl_addr h_list_ hy12
    subst ha12
    have hc12 := get_timer h_list_ hy12
    refine wd_take (i := 2) [] rfl rfl rfl rfl rfl (by kernel_rfl) rfl (fun _ _ _ _ h => h) (yh_idx Tb (k := s3) rfl rfl rfl rfl (get_lt hy12) rfl rfl) ?_
    refine wd_take (i := 3) [] rfl rfl rfl rfl rfl (by kernel_rfl) rfl (fun _ _ _ _ h => h) (yh_field Tb rfl rfl rfl) ?_
    refine wd_take (i := 4) [] rfl rfl rfl rfl rfl (by kernel_rfl) rfl (fun _ _ _ _ h => h) (yh_loadAF Tb (j := 0) rfl rfl rfl hc12 rfl) ?_
    obtain ⟨x15, hx15, h⟩ := bd h
    refine wd_one 5 rfl rfl (by kernel_rfl) (ow_cV rfl hb58 rfl (fun w hw => c_spec_l6In N _ _ _ _ hx15 w) rfl rfl (kk_wd [] rfl ?_))
    refine wd_take (i := 6) [] rfl rfl rfl rfl rfl (by kernel_rfl) rfl (fun _ _ _ _ h => h) (yh_not rfl rfl) ?_
    refine wd_take (i := 7) [] rfl rfl rfl rfl rfl (by kernel_rfl) rfl (fun _ _ _ _ h => h) (yh_move rfl rfl) ?_
    refine wd_split 8 rfl rfl rfl (fun c2 => ?_) (fun c2 => ?_)
    · skip
      replace h := bt c2 h
      refine wd_skip (i := 8) [] rfl rfl rfl rfl (by kernel_rfl) rfl (fun _ _ _ h => h) ?_
      refine wd_skip (i := 9) [] rfl rfl rfl rfl (by kernel_rfl) rfl (fun _ _ _ h => h) ?_
      refine wd_skip (i := 10) [] rfl rfl rfl rfl (by kernel_rfl) rfl (fun _ _ _ h => h) ?_
      refine wd_skip (i := 11) [] rfl rfl rfl rfl (by kernel_rfl) rfl (fun _ _ _ h => h) ?_
      refine wd_skip (i := 12) [] rfl rfl rfl rfl (by kernel_rfl) rfl (fun _ _ _ h => h) ?_
      refine wd_offD 13 rfl rfl rfl rfl (by kernel_rfl) [] (fun _ => rfl) ?_
      refine wd_skip (i := 14) [] rfl rfl rfl rfl (by kernel_rfl) rfl (fun _ _ _ h => h) ?_
      refine wd_take (i := 15) [] rfl rfl rfl rfl rfl (by kernel_rfl) rfl (fun _ _ _ _ h => h) (yh_pickT rfl rfl rfl) ?_
      refine wd_take (i := 16) [] rfl rfl rfl rfl rfl (by kernel_rfl) rfl (fun _ _ _ _ h => h) (yh_move rfl rfl) ?_
      refine wd_split 17 rfl rfl rfl (fun _ => ?_) nofun
      refine wd_skip (i := 17) [] rfl rfl rfl rfl (by kernel_rfl) rfl (fun _ _ _ h => h) ?_
      refine wd_skip (i := 18) [] rfl rfl rfl rfl (by kernel_rfl) rfl (fun _ _ _ h => h) ?_
      refine wd_skip (i := 19) [] rfl rfl rfl rfl (by kernel_rfl) rfl (fun _ _ _ h => h) ?_
      refine wd_skip (i := 20) [] rfl rfl rfl rfl (by kernel_rfl) rfl (fun _ _ _ h => h) ?_
      refine wd_skip (i := 21) [] rfl rfl rfl rfl (by kernel_rfl) rfl (fun _ _ _ h => h) ?_
      refine wd_skip (i := 22) [] rfl rfl rfl rfl (by kernel_rfl) rfl (fun _ _ _ h => h) ?_
      refine wd_skip (i := 24) [] rfl rfl rfl rfl (by kernel_rfl) rfl (fun _ _ _ h => h) ?_
      refine wd_offD 23 rfl rfl rfl rfl (by kernel_rfl) [] (fun _ => rfl) ?_
      refine wd_skip (i := 25) [] rfl rfl rfl rfl (by kernel_rfl) rfl (fun _ _ _ h => h) ?_
      refine wd_take (i := 26) [] rfl rfl rfl rfl rfl (by kernel_rfl) rfl (fun _ _ _ _ h => h) (yh_pickT rfl rfl rfl) ?_
      refine wd_take (i := 27) [] rfl rfl rfl rfl rfl (by kernel_rfl) rfl (fun _ _ _ _ h => h) (yh_move rfl rfl) ?_
      refine wd_split 28 rfl rfl rfl (fun _ => ?_) nofun
      refine wd_skip (i := 28) [] rfl rfl rfl rfl (by kernel_rfl) rfl (fun _ _ _ h => h) ?_
      refine wd_skip (i := 29) [] rfl rfl rfl rfl (by kernel_rfl) rfl (fun _ _ _ h => h) ?_
      refine wd_skip (i := 30) [] rfl rfl rfl rfl (by kernel_rfl) rfl (fun _ _ _ h => h) ?_
      refine wd_skip (i := 31) [] rfl rfl rfl rfl (by kernel_rfl) rfl (fun _ _ _ h => h) ?_
      refine wd_skip (i := 32) [] rfl rfl rfl rfl (by kernel_rfl) rfl (fun _ _ _ h => h) ?_
      refine wd_skip (i := 33) [] rfl rfl rfl rfl (by kernel_rfl) rfl (fun _ _ _ h => h) ?_
      refine wd_skip (i := 34) [] rfl rfl rfl rfl (by kernel_rfl) rfl (fun _ _ _ h => h) ?_
      refine wd_skip (i := 35) [] rfl rfl rfl rfl (by kernel_rfl) rfl (fun _ _ _ h => h) ?_
      refine wd_skip (i := 36) [] rfl rfl rfl rfl (by kernel_rfl) rfl (fun _ _ _ h => h) ?_
      refine wd_skip (i := 37) [] rfl rfl rfl rfl (by kernel_rfl) rfl (fun _ _ _ h => h) ?_
      refine wd_skip (i := 38) [] rfl rfl rfl rfl (by kernel_rfl) rfl (fun _ _ _ h => h) ?_
      refine wd_skip (i := 39) [] rfl rfl rfl rfl (by kernel_rfl) rfl (fun _ _ _ h => h) ?_
      refine wd_offD 40 rfl rfl rfl rfl (by kernel_rfl) [] (fun _ => rfl) ?_
      refine wd_skip (i := 41) [] rfl rfl rfl rfl (by kernel_rfl) rfl (fun _ _ _ h => h) ?_
      refine wd_skip (i := 42) [] rfl rfl rfl rfl (by kernel_rfl) rfl (fun _ _ _ h => h) ?_
      refine wd_take (i := 43) [] rfl rfl rfl rfl rfl (by kernel_rfl) rfl (fun _ _ _ _ h => h) (yh_pickT rfl rfl rfl) ?_
      refine wd_done (by kernel_rfl) ?_
      refine ex_seq ?_
      refine cw_true rfl ?_
      refine cw_seq ?_
      refine cw_region ?_
      refine wl_u rfl (ow_y (yh_assign rfl rfl) rfl rfl (kk_wl ?_))
      refine wl_nil ?_
      refine ex_seq ?_
      refine cw_ret ?_
      refine ex_block_ret ?_
      refine ex_then_ret ?_
      refine ex_then_ret ?_
      refine ex_block_ret ?_
      refine ex_then_ret ?_
      obtain rfl := Option.some.inj h
      obtain rfl := go_ret hk5
      exact ex_r1 Tb rfl (.tmp rfl) (fun wq hq => ⟨_, rfl, hq.ext, rfl⟩)
    · skip
      replace h := bf c2 h
      refine wd_take (i := 8) [] rfl rfl rfl rfl rfl (by kernel_rfl) rfl (fun _ _ _ _ h => h) (yh_move rfl rfl) ?_
      refine wd_take (i := 9) [] rfl rfl rfl rfl rfl (by kernel_rfl) rfl (fun _ _ _ _ h => h) (yh_move rfl rfl) ?_
      refine wd_take (i := 10) [] rfl rfl rfl rfl rfl (by kernel_rfl) rfl (fun _ _ _ _ h => h) (yh_idx Tb (k := s3) rfl rfl rfl rfl (get_lt hy12) rfl rfl) ?_
      refine wd_take (i := 11) [] rfl rfl rfl rfl rfl (by kernel_rfl) rfl (fun _ _ _ _ h => h) (yh_field Tb rfl rfl rfl) ?_
      refine wd_take (i := 12) [] rfl rfl rfl rfl rfl (by kernel_rfl) rfl (fun _ _ _ _ h => h) (yh_loadAF Tb (j := 1) rfl rfl rfl hc12 rfl) ?_
      obtain ⟨x23, hx23, h⟩ := bd h
      refine wd_one 13 rfl rfl (by kernel_rfl) (ow_cV rfl hb59 rfl (fun w hw => c_spec_NameValid N _ _ hx23 w) rfl rfl (kk_wd [] rfl ?_))
      refine wd_take (i := 14) [] rfl rfl rfl rfl rfl (by kernel_rfl) rfl (fun _ _ _ _ h => h) (yh_not rfl rfl) ?_
      refine wd_take (i := 15) [] rfl rfl rfl rfl rfl (by kernel_rfl) rfl (fun _ _ _ _ h => h) (yh_pickF rfl rfl rfl) ?_
      refine wd_take (i := 16) [] rfl rfl rfl rfl rfl (by kernel_rfl) rfl (fun _ _ _ _ h => h) (yh_move rfl rfl) ?_
      refine wd_split 17 rfl rfl rfl (fun c3 => ?_) (fun c3 => ?_)
      · skip
        replace h := bt c3 h
        refine wd_skip (i := 17) [] rfl rfl rfl rfl (by kernel_rfl) rfl (fun _ _ _ h => h) ?_
        refine wd_skip (i := 18) [] rfl rfl rfl rfl (by kernel_rfl) rfl (fun _ _ _ h => h) ?_
        refine wd_skip (i := 19) [] rfl rfl rfl rfl (by kernel_rfl) rfl (fun _ _ _ h => h) ?_
        refine wd_skip (i := 20) [] rfl rfl rfl rfl (by kernel_rfl) rfl (fun _ _ _ h => h) ?_
        refine wd_skip (i := 21) [] rfl rfl rfl rfl (by kernel_rfl) rfl (fun _ _ _ h => h) ?_
        refine wd_skip (i := 22) [] rfl rfl rfl rfl (by kernel_rfl) rfl (fun _ _ _ h => h) ?_
        refine wd_skip (i := 24) [] rfl rfl rfl rfl (by kernel_rfl) rfl (fun _ _ _ h => h) ?_
        refine wd_offD 23 rfl rfl rfl rfl (by kernel_rfl) [] (fun _ => rfl) ?_
        refine wd_skip (i := 25) [] rfl rfl rfl rfl (by kernel_rfl) rfl (fun _ _ _ h => h) ?_
        refine wd_take (i := 26) [] rfl rfl rfl rfl rfl (by kernel_rfl) rfl (fun _ _ _ _ h => h) (yh_pickT rfl rfl rfl) ?_
        refine wd_take (i := 27) [] rfl rfl rfl rfl rfl (by kernel_rfl) rfl (fun _ _ _ _ h => h) (yh_move rfl rfl) ?_
        refine wd_split 28 rfl rfl rfl (fun _ => ?_) nofun
        refine wd_skip (i := 28) [] rfl rfl rfl rfl (by kernel_rfl) rfl (fun _ _ _ h => h) ?_
        refine wd_skip (i := 29) [] rfl rfl rfl rfl (by kernel_rfl) rfl (fun _ _ _ h => h) ?_
        refine wd_skip (i := 30) [] rfl rfl rfl rfl (by kernel_rfl) rfl (fun _ _ _ h => h) ?_
        refine wd_skip (i := 31) [] rfl rfl rfl rfl (by kernel_rfl) rfl (fun _ _ _ h => h) ?_
        refine wd_skip (i := 32) [] rfl rfl rfl rfl (by kernel_rfl) rfl (fun _ _ _ h => h) ?_
        refine wd_skip (i := 33) [] rfl rfl rfl rfl (by kernel_rfl) rfl (fun _ _ _ h => h) ?_
        refine wd_skip (i := 34) [] rfl rfl rfl rfl (by kernel_rfl) rfl (fun _ _ _ h => h) ?_
        refine wd_skip (i := 35) [] rfl rfl rfl rfl (by kernel_rfl) rfl (fun _ _ _ h => h) ?_
        refine wd_skip (i := 36) [] rfl rfl rfl rfl (by kernel_rfl) rfl (fun _ _ _ h => h) ?_
        refine wd_skip (i := 37) [] rfl rfl rfl rfl (by kernel_rfl) rfl (fun _ _ _ h => h) ?_
        refine wd_skip (i := 38) [] rfl rfl rfl rfl (by kernel_rfl) rfl (fun _ _ _ h => h) ?_
        refine wd_skip (i := 39) [] rfl rfl rfl rfl (by kernel_rfl) rfl (fun _ _ _ h => h) ?_
        refine wd_offD 40 rfl rfl rfl rfl (by kernel_rfl) [] (fun _ => rfl) ?_
        refine wd_skip (i := 41) [] rfl rfl rfl rfl (by kernel_rfl) rfl (fun _ _ _ h => h) ?_
        refine wd_skip (i := 42) [] rfl rfl rfl rfl (by kernel_rfl) rfl (fun _ _ _ h => h) ?_
        refine wd_take (i := 43) [] rfl rfl rfl rfl rfl (by kernel_rfl) rfl (fun _ _ _ _ h => h) (yh_pickT rfl rfl rfl) ?_
        refine wd_done (by kernel_rfl) ?_
        refine ex_seq ?_
        refine cw_true rfl ?_
        refine cw_seq ?_
        refine cw_region ?_
        refine wl_u rfl (ow_y (yh_assign rfl rfl) rfl rfl (kk_wl ?_))
        refine wl_nil ?_
        refine ex_seq ?_
        refine cw_ret ?_
        refine ex_block_ret ?_
        refine ex_then_ret ?_
        refine ex_then_ret ?_
        refine ex_block_ret ?_
        refine ex_then_ret ?_
        obtain rfl := Option.some.inj h
        obtain rfl := go_ret hk5
        exact ex_r1 Tb rfl (.tmp rfl) (fun wq hq => ⟨_, rfl, hq.ext, rfl⟩)
      · skip
        replace h := bf c3 h
        refine wd_take (i := 17) [] rfl rfl rfl rfl rfl (by kernel_rfl) rfl (fun _ _ _ _ h => h) (yh_move rfl rfl) ?_
        refine wd_take (i := 18) [] rfl rfl rfl rfl rfl (by kernel_rfl) rfl (fun _ _ _ _ h => h) (yh_move rfl rfl) ?_
        refine wd_take (i := 19) [] rfl rfl rfl rfl rfl (by kernel_rfl) rfl (fun _ _ _ _ h => h) (yh_move rfl rfl) ?_
        refine wd_take (i := 20) [] rfl rfl rfl rfl rfl (by kernel_rfl) rfl (fun _ _ _ _ h => h) (yh_idx Tb (k := s3) rfl rfl rfl rfl (get_lt hy12) rfl rfl) ?_
        refine wd_take (i := 21) [] rfl rfl rfl rfl rfl (by kernel_rfl) rfl (fun _ _ _ _ h => h) (yh_field Tb rfl rfl rfl) ?_
        refine wd_take (i := 22) [] rfl rfl rfl rfl rfl (by kernel_rfl) rfl (fun _ _ _ _ h => h) (yh_loadAF Tb (j := 1) rfl rfl rfl hc12 rfl) ?_
        refine wd_take (i := 24) [] rfl rfl rfl rfl rfl (by kernel_rfl) rfl (fun _ _ _ _ h => h) (yh_move rfl rfl) ?_
        obtain ⟨x33, hx33, h⟩ := bd h
        refine wd_one 23 rfl rfl (by kernel_rfl) (ow_cV rfl hb60 rfl (fun w hw => c_spec_l15At N _ _ _ hx33 w (Lay.at_ h_list_ hw)) rfl rfl (kk_wd [] rfl ?_))
        refine wd_take (i := 25) [] rfl rfl rfl rfl rfl (by kernel_rfl) rfl (fun _ _ _ _ h => h) (yh_cmpI rfl rfl rfl rfl) ?_
        refine wd_take (i := 26) [] rfl rfl rfl rfl rfl (by kernel_rfl) rfl (fun _ _ _ _ h => h) (yh_pickF rfl rfl rfl) ?_
        refine wd_take (i := 27) [] rfl rfl rfl rfl rfl (by kernel_rfl) rfl (fun _ _ _ _ h => h) (yh_move rfl rfl) ?_
        refine wd_split 28 rfl rfl rfl (fun c4 => ?_) (fun c4 => ?_)
        · skip
          replace h := bt c4 h
          have q2 := ltb_true.1 c4
          refine wd_skip (i := 28) [] rfl rfl rfl rfl (by kernel_rfl) rfl (fun _ _ _ h => h) ?_
          refine wd_skip (i := 29) [] rfl rfl rfl rfl (by kernel_rfl) rfl (fun _ _ _ h => h) ?_
          refine wd_skip (i := 30) [] rfl rfl rfl rfl (by kernel_rfl) rfl (fun _ _ _ h => h) ?_
          refine wd_skip (i := 31) [] rfl rfl rfl rfl (by kernel_rfl) rfl (fun _ _ _ h => h) ?_
          refine wd_skip (i := 32) [] rfl rfl rfl rfl (by kernel_rfl) rfl (fun _ _ _ h => h) ?_
          refine wd_skip (i := 33) [] rfl rfl rfl rfl (by kernel_rfl) rfl (fun _ _ _ h => h) ?_
          refine wd_skip (i := 34) [] rfl rfl rfl rfl (by kernel_rfl) rfl (fun _ _ _ h => h) ?_
          refine wd_skip (i := 35) [] rfl rfl rfl rfl (by kernel_rfl) rfl (fun _ _ _ h => h) ?_
          refine wd_skip (i := 36) [] rfl rfl rfl rfl (by kernel_rfl) rfl (fun _ _ _ h => h) ?_
          refine wd_skip (i := 37) [] rfl rfl rfl rfl (by kernel_rfl) rfl (fun _ _ _ h => h) ?_
          refine wd_skip (i := 38) [] rfl rfl rfl rfl (by kernel_rfl) rfl (fun _ _ _ h => h) ?_
          refine wd_skip (i := 39) [] rfl rfl rfl rfl (by kernel_rfl) rfl (fun _ _ _ h => h) ?_
          refine wd_offD 40 rfl rfl rfl rfl (by kernel_rfl) [] (fun _ => rfl) ?_
          refine wd_skip (i := 41) [] rfl rfl rfl rfl (by kernel_rfl) rfl (fun _ _ _ h => h) ?_
          refine wd_skip (i := 42) [] rfl rfl rfl rfl (by kernel_rfl) rfl (fun _ _ _ h => h) ?_
          refine wd_take (i := 43) [] rfl rfl rfl rfl rfl (by kernel_rfl) rfl (fun _ _ _ _ h => h) (yh_pickT rfl rfl rfl) ?_
          refine wd_done (by kernel_rfl) ?_
          refine ex_seq ?_
          refine cw_true rfl ?_
          refine cw_seq ?_
          refine cw_region ?_
          refine wl_u rfl (ow_y (yh_assign rfl rfl) rfl rfl (kk_wl ?_))
          refine wl_nil ?_
          refine ex_seq ?_
          refine cw_ret ?_
          refine ex_block_ret ?_
          refine ex_then_ret ?_
          refine ex_then_ret ?_
          refine ex_block_ret ?_
          refine ex_then_ret ?_
          obtain rfl := Option.some.inj h
          obtain rfl := go_ret hk5
          exact ex_r1 Tb rfl (.tmp rfl) (fun wq hq => ⟨_, rfl, hq.ext, rfl⟩)
        · skip
          replace h := bf c4 h
          have q3 := ltb_false.1 c4
          refine wd_take (i := 28) [] rfl rfl rfl rfl rfl (by kernel_rfl) rfl (fun _ _ _ _ h => h) (yh_move rfl rfl) ?_
          refine wd_take (i := 29) [] rfl rfl rfl rfl rfl (by kernel_rfl) rfl (fun _ _ _ _ h => h) (yh_cmpI rfl rfl rfl rfl) ?_
          refine wd_take (i := 30) [] rfl rfl rfl rfl rfl (by kernel_rfl) rfl (fun _ _ _ _ h => h) (yh_move rfl rfl) ?_
          refine wd_split 31 rfl rfl rfl (fun c5 => ?_) (fun c5 => ?_)
          · skip
            replace h := bt c5 h
            have q4 := ltb_true.1 c5
            refine wd_take (i := 31) [] rfl rfl rfl rfl rfl (by kernel_rfl) rfl (fun _ _ _ _ h => h) (yh_move rfl rfl) ?_
            refine wd_take (i := 32) [] rfl rfl rfl rfl rfl (by kernel_rfl) rfl (fun _ _ _ _ h => h) (yh_move rfl rfl) ?_
            refine wd_take (i := 33) [] rfl rfl rfl rfl rfl (by kernel_rfl) rfl (fun _ _ _ _ h => h) (yh_arI rfl rfl rfl rfl (by omega)) ?_
            obtain ⟨y44, zy44, h⟩ := bd h
            obtain ⟨iy44, hy44⟩ := geti_some zy44
            have hc44 := get_timer h_list_ hy44
            refine wd_take (i := 34) [] rfl rfl rfl rfl rfl (by kernel_rfl) rfl (fun _ _ _ _ h => h) (yh_idx Tb (k := (((s3 : Nat) : Int) - 1).toNat) rfl rfl rfl iy44 (get_lt hy44) rfl rfl) ?_
            refine wd_take (i := 35) [] rfl rfl rfl rfl rfl (by kernel_rfl) rfl (fun _ _ _ _ h => h) (yh_loadAN Tb rfl rfl rfl rfl hc44 rfl) ?_
            refine wd_take (i := 36) [] rfl rfl rfl rfl rfl (by kernel_rfl) rfl (fun _ _ _ _ h => h) (yh_move rfl rfl) ?_
            refine wd_take (i := 37) [] rfl rfl rfl rfl rfl (by kernel_rfl) rfl (fun _ _ _ _ h => h) (yh_move rfl rfl) ?_
            refine wd_take (i := 38) [] rfl rfl rfl rfl rfl (by kernel_rfl) rfl (fun _ _ _ _ h => h) (yh_idx Tb (k := s3) rfl rfl rfl rfl (get_lt hy12) rfl rfl) ?_
            refine wd_take (i := 39) [] rfl rfl rfl rfl rfl (by kernel_rfl) rfl (fun _ _ _ _ h => h) (yh_loadAN Tb rfl rfl rfl rfl hc12 rfl) ?_
            obtain ⟨x50, hx50, h⟩ := bd h
            refine wd_one 40 rfl rfl (by kernel_rfl) (ow_cV rfl hb61 rfl (fun w hw => c_spec_l15Before N _ _ _ hx50 w) rfl rfl (kk_wd [] rfl ?_))
            refine wd_take (i := 41) [] rfl rfl rfl rfl rfl (by kernel_rfl) rfl (fun _ _ _ _ h => h) (yh_not rfl rfl) ?_
            refine wd_take (i := 42) [] rfl rfl rfl rfl rfl (by kernel_rfl) rfl (fun _ _ _ _ h => h) (yh_pickT rfl rfl rfl) ?_
            refine wd_take (i := 43) [] rfl rfl rfl rfl rfl (by kernel_rfl) rfl (fun _ _ _ _ h => h) (yh_pickF rfl rfl rfl) ?_
            refine wd_done (by kernel_rfl) ?_
            refine ex_seq ?_
            refine cw_split rfl (fun c6 => ?_) (fun c6 => ?_)
            · skip
              replace h := bt c6 h
              refine cw_seq ?_
              refine cw_region ?_
              refine wl_u rfl (ow_y (yh_assign rfl rfl) rfl rfl (kk_wl ?_))
              refine wl_nil ?_
              refine ex_seq ?_
              refine cw_ret ?_
              refine ex_block_ret ?_
              refine ex_then_ret ?_
              refine ex_then_ret ?_
              refine ex_block_ret ?_
              refine ex_then_ret ?_
              obtain rfl := Option.some.inj h
              obtain rfl := go_ret hk5
              exact ex_r1 Tb rfl (.tmp rfl) (fun wq hq => ⟨_, rfl, hq.ext, rfl⟩)
            · skip
              replace h := bf c6 h
              refine cw_skip ?_
              refine ex_block_normal ?_
              refine ex_seq ?_
              refine cw_region ?_
              refine wl_u rfl (ow_y (yh_move rfl rfl) rfl rfl (kk_wl ?_))
              refine wl_u rfl (ow_y (yh_arI rfl rfl rfl rfl (by omega)) rfl rfl (kk_wl ?_))
              refine wl_u rfl (ow_y (yh_assign rfl rfl) rfl rfl (kk_wl ?_))
              refine wl_nil ?_
              exact ex_next [] (hn5 (n5, s3 + 1) (Nat.lt_succ_self _) h) ⟨rfl, rfl, trivial⟩ rfl
          · skip
            replace h := bf c5 h
            have q5 := ltb_false.1 c5
            refine wd_skip (i := 31) [] rfl rfl rfl rfl (by kernel_rfl) rfl (fun _ _ _ h => h) ?_
            refine wd_skip (i := 32) [] rfl rfl rfl rfl (by kernel_rfl) rfl (fun _ _ _ h => h) ?_
            refine wd_skip (i := 33) [] rfl rfl rfl rfl (by kernel_rfl) rfl (fun _ _ _ h => h) ?_
            refine wd_skip (i := 34) [] rfl rfl rfl rfl (by kernel_rfl) rfl (fun _ _ _ h => h) ?_
            refine wd_skip (i := 35) [] rfl rfl rfl rfl (by kernel_rfl) rfl (fun _ _ _ h => h) ?_
            refine wd_skip (i := 36) [] rfl rfl rfl rfl (by kernel_rfl) rfl (fun _ _ _ h => h) ?_
            refine wd_skip (i := 37) [] rfl rfl rfl rfl (by kernel_rfl) rfl (fun _ _ _ h => h) ?_
            refine wd_skip (i := 38) [] rfl rfl rfl rfl (by kernel_rfl) rfl (fun _ _ _ h => h) ?_
            refine wd_skip (i := 39) [] rfl rfl rfl rfl (by kernel_rfl) rfl (fun _ _ _ h => h) ?_
            refine wd_offD 40 rfl rfl rfl rfl (by kernel_rfl) [] (fun _ => rfl) ?_
            refine wd_skip (i := 41) [] rfl rfl rfl rfl (by kernel_rfl) rfl (fun _ _ _ h => h) ?_
            refine wd_take (i := 42) [] rfl rfl rfl rfl rfl (by kernel_rfl) rfl (fun _ _ _ _ h => h) (yh_pickF rfl rfl rfl) ?_
            refine wd_take (i := 43) [] rfl rfl rfl rfl rfl (by kernel_rfl) rfl (fun _ _ _ _ h => h) (yh_pickF rfl rfl rfl) ?_
            refine wd_done (by kernel_rfl) ?_
            refine ex_seq ?_
            refine cw_false rfl ?_
            refine cw_skip ?_
            refine ex_block_normal ?_
            refine ex_seq ?_
            refine cw_region ?_
            refine wl_u rfl (ow_y (yh_move rfl rfl) rfl rfl (kk_wl ?_))
            refine wl_u rfl (ow_y (yh_arI rfl rfl rfl rfl (by omega)) rfl rfl (kk_wl ?_))
            refine wl_u rfl (ow_y (yh_assign rfl rfl) rfl rfl (kk_wl ?_))
            refine wl_nil ?_
            exact ex_next [] (hn5 (n5, s3 + 1) (Nat.lt_succ_self _) h) ⟨rfl, rfl, trivial⟩ rfl
  · skip
    replace h := bf c1 h
    have q6 := ltb_false.1 c1
    refine cw_exit ?_
    refine ex_then_exit ?_
    refine ex_then_exit ?_
    obtain rfl := Option.some.inj h
    have h := go_brk hk5
    refine ex_block_exit ?_
    refine ex_seq ?_
    refine cw_seq ?_
    refine cw_region ?_
    refine wl_u rfl (ow_y (yh_move rfl rfl) rfl rfl (kk_wl ?_))
    refine wl_u rfl (ow_y (yh_lenS Tb rfl rfl rfl rfl) rfl rfl (kk_wl ?_))
    refine wl_u rfl (ow_y (yh_cmpI rfl rfl rfl rfl) rfl rfl (kk_wl ?_))
    refine wl_u rfl (ow_y (yh_assign rfl rfl) rfl rfl (kk_wl ?_))
    refine wl_nil ?_
    refine ex_seq ?_
    refine cw_ret ?_
    obtain rfl := Option.some.inj h
    exact ex_r1 Tb rfl (.tmp rfl) (fun wq hq => ⟨_, rfl, hq.ext, rfl⟩)

def m_laws_FnTimersPart (N : Nat) (u0 : List UInt8) (u1 : List UInt8) : Option (Bool) := (bif ltb 1048576 ((u0.length : Nat) : Int) then some true
 else (bif ltb 1048576 ((u1.length : Nat) : Int) then some true
 else (m_spec_DrawTimersValid N u0).bind fun x20 => (m_impl_TimersValid N x20).bind fun x22 => (m_spec_TimersValid N x20).bind fun x24 => (bif x22 != x24 then some (x22 == x24)
 else (bif !x22 then some (x22 == x24)
 else (bif eqb ((x20.length : Nat) : Int) 0 then some (x22 == x24)
 else ((slTo x20 ((u1.length % x20.length : Nat) : Int)).bind fun l48 => (slFrom x20 (w64 (((u1.length % x20.length : Nat) : Int) + 1))).bind fun l53 => (appd ([] : List Timer) l48).bind fun l49 => (appd (([] : List Timer) ++ l48) l53).bind fun l54 => some ((([] : List Timer) ++ l48) ++ l53) : Option ((List Timer))).bind fun j115 => ((slTo x20 (w64 (((u1.length % x20.length : Nat) : Int) + 1))).bind fun l59 => (slFrom x20 ((u1.length % x20.length : Nat) : Int)).bind fun l63 => (appd ([] : List Timer) l59).bind fun l60 => (appd (([] : List Timer) ++ l59) l63).bind fun l64 => some ((([] : List Timer) ++ l59) ++ l63) : Option ((List Timer))).bind fun j117 => (m_impl_TimersValid N j115).bind fun x66 => (bif x66 then (m_impl_TimersValid N j117).bind fun x69 => some (!x69)
 else some false))))))

set_option maxHeartbeats 4000000 in
theorem c_laws_FnTimersPart (N : Nat) (u0 : List UInt8) (u1 : List UInt8) (res : Bool) (h : m_laws_FnTimersPart N u0 u1 = some res) (w : World) {a_u0 a_u1 : Option Addr} {c_u0 c_u1 : Nat} (h_u0 : bytesL.rd w [] [.slice a_u0 u0.length c_u0] u0) (h_u1 : bytesL.rd w [] [.slice a_u1 u1.length c_u1] u1) : Ret Try.prog 3 [.slice a_u0 u0.length c_u0, .slice a_u1 u1.length c_u1] w [] fun v w' => v = .bool res := by
  have mh_u0 := rd_max h_u0
  have mh_u1 := rd_max h_u1
  unfold m_laws_FnTimersPart at h
  refine ret_enter Try.func3 rfl Try.ntmps3 rfl (Hp.refl w _) ?_
  refine cw_seq ?_
  refine cw_region ?_
  refine wl_u rfl (ow_y (yh_assign rfl rfl) rfl rfl (kk_wl ?_))
  refine wl_nil ?_
  refine ex_seq ?_
  refine cw_seq ?_
  refine cw_seq ?_
  refine cw_region ?_
  refine wl_u rfl (ow_y (yh_move rfl rfl) rfl rfl (kk_wl ?_))
  refine wl_u rfl (ow_y (yh_lenS Tb rfl rfl rfl rfl) rfl rfl (kk_wl ?_))
  refine wl_u rfl (ow_y (yh_cmpI rfl rfl rfl rfl) rfl rfl (kk_wl ?_))
  refine wl_u rfl (ow_y (yh_move rfl rfl) rfl rfl (kk_wl ?_))
  refine wl_s rfl rfl (fun c1 => ?_) (fun c1 => ?_)
  · skip
    replace h := bt c1 h
    have q1 := ltb_true.1 c1
    refine wl_n rfl rfl rfl rfl ?_
    refine wl_n rfl rfl rfl rfl ?_
    refine wl_n rfl rfl rfl rfl ?_
    refine wl_u rfl (ow_y (yh_pickT rfl rfl rfl) rfl rfl (kk_wl ?_))
    refine wl_nil ?_
    refine ex_seq ?_
    refine cw_true rfl ?_
    refine cw_seq ?_
    refine cw_region ?_
    refine wl_u rfl (ow_y (yh_assign rfl rfl) rfl rfl (kk_wl ?_))
    refine wl_nil ?_
    refine ex_seq ?_
    refine cw_ret ?_
    refine ex_then_ret ?_
    obtain rfl := Option.some.inj h
    exact ex_r1 Tb rfl (.tmp rfl) (fun wq hq => ⟨_, rfl, hq.ext, rfl⟩)
  · skip
    replace h := bf c1 h
    have q2 := ltb_false.1 c1
    refine wl_g rfl rfl (ow_y (yh_move rfl rfl) rfl rfl (kk_wl ?_))
    refine wl_g rfl rfl (ow_y (yh_lenS Tb rfl rfl rfl rfl) rfl rfl (kk_wl ?_))
    refine wl_g rfl rfl (ow_y (yh_cmpI rfl rfl rfl rfl) rfl rfl (kk_wl ?_))
    refine wl_u rfl (ow_y (yh_pickF rfl rfl rfl) rfl rfl (kk_wl ?_))
    refine wl_nil ?_
    refine ex_seq ?_
    refine cw_split rfl (fun c2 => ?_) (fun c2 => ?_)
    · skip
      replace h := bt c2 h
      have q3 := ltb_true.1 c2
      refine cw_seq ?_
      refine cw_region ?_
      refine wl_u rfl (ow_y (yh_assign rfl rfl) rfl rfl (kk_wl ?_))
      refine wl_nil ?_
      refine ex_seq ?_
      refine cw_ret ?_
      refine ex_then_ret ?_
      obtain rfl := Option.some.inj h
      exact ex_r1 Tb rfl (.tmp rfl) (fun wq hq => ⟨_, rfl, hq.ext, rfl⟩)
    · skip
      replace h := bf c2 h
      have q4 := ltb_false.1 c2
      refine cw_skip ?_
      refine ex_seq ?_
      refine cw_seq ?_
      refine cw_region ?_
      refine wl_u rfl (ow_y (yh_move rfl rfl) rfl rfl (kk_wl ?_))
      obtain ⟨x20, hx20, h⟩ := bd h
      refine wl_u rfl (ow_cN1 rfl hb14 rfl (fun w hw => c_spec_DrawTimersValid N _ _ hx20 w (Lay.at_ h_u0 hw)) rfl rfl (fun a20 c20 F20 => kk_wl ?_))
      refine wl_u rfl (ow_y (yh_assign rfl rfl) rfl rfl (kk_wl ?_))
      refine wl_nil ?_
      refine ex_seq ?_
      refine cw_seq ?_
      refine cw_freeze 0 rfl (fun w1 M1 hb1_ hz1 => ?_)
      replace h_u0 := Lay.rb h_u0 hb1_
      replace h_u1 := Lay.rb h_u1 hb1_
      have hB1 := hb1_
      have mz1 := rd_max hz1
      refine cw_region ?_
      refine wl_u rfl (ow_y (yh_move rfl rfl) rfl rfl (kk_wl ?_))
      obtain ⟨x22, hx22, h⟩ := bd h
      refine wl_u rfl (ow_cV rfl hb15 rfl (fun w hw => c_impl_TimersValid N _ _ hx22 w (Lay.at_ hz1 hw)) rfl rfl (kk_wl ?_))
      refine wl_u rfl (ow_y (yh_assign rfl rfl) rfl rfl (kk_wl ?_))
      refine wl_nil ?_
      refine ex_seq ?_
      refine cw_seq ?_
      refine cw_region ?_
      refine wl_u rfl (ow_y (yh_move rfl rfl) rfl rfl (kk_wl ?_))
      obtain ⟨x24, hx24, h⟩ := bd h
      refine wl_u rfl (ow_cV rfl hb16 rfl (fun w hw => c_spec_TimersValid N _ _ hx24 w (Lay.at_ hz1 hw)) rfl rfl (kk_wl ?_))
      refine wl_u rfl (ow_y (yh_assign rfl rfl) rfl rfl (kk_wl ?_))
      refine wl_nil ?_
      refine ex_seq ?_
      refine cw_seq ?_
      refine cw_seq ?_
      refine cw_region ?_
      refine wl_u rfl (ow_y (yh_move rfl rfl) rfl rfl (kk_wl ?_))
      refine wl_u rfl (ow_y (yh_move rfl rfl) rfl rfl (kk_wl ?_))
      refine wl_u rfl (ow_y (yh_cmpB rfl rfl rfl rfl (by kernel_rfl)) rfl rfl (kk_wl ?_))
      refine wl_u rfl (ow_y (yh_move rfl rfl) rfl rfl (kk_wl ?_))
      refine wl_s rfl rfl (fun c3 => ?_) (fun c3 => ?_)
      · skip
        replace h := bt c3 h
        refine wl_n rfl rfl rfl rfl ?_
        refine wl_n rfl rfl rfl rfl ?_
        refine wl_u rfl (ow_y (yh_pickT rfl rfl rfl) rfl rfl (kk_wl ?_))
        refine wl_u rfl (ow_y (yh_move rfl rfl) rfl rfl (kk_wl ?_))
        refine wl_s rfl rfl (fun _ => ?_) nofun
        refine wl_n rfl rfl rfl rfl ?_
        refine wl_n rfl rfl rfl rfl ?_
        refine wl_n rfl rfl rfl rfl ?_
        refine wl_u rfl (ow_y (yh_pickT rfl rfl rfl) rfl rfl (kk_wl ?_))
        refine wl_nil ?_
        refine ex_seq ?_
        refine cw_true rfl ?_
        refine cw_seq ?_
        refine cw_region ?_
        refine wl_u rfl (ow_y (yh_move rfl rfl) rfl rfl (kk_wl ?_))
        refine wl_u rfl (ow_y (yh_move rfl rfl) rfl rfl (kk_wl ?_))
        refine wl_u rfl (ow_y (yh_cmpB rfl rfl rfl rfl (by kernel_rfl)) rfl rfl (kk_wl ?_))
        refine wl_u rfl (ow_y (yh_assign rfl rfl) rfl rfl (kk_wl ?_))
        refine wl_nil ?_
        refine ex_seq ?_
        refine cw_ret ?_
        refine ex_then_ret ?_
        obtain rfl := Option.some.inj h
        exact ex_r1 Tb rfl (.tmp rfl) (fun wq hq => ⟨_, rfl, (hB1.back hq).ext, rfl⟩)
      · skip
        replace h := bf c3 h
        refine wl_g rfl rfl (ow_y (yh_move rfl rfl) rfl rfl (kk_wl ?_))
        refine wl_g rfl rfl (ow_y (yh_not rfl rfl) rfl rfl (kk_wl ?_))
        refine wl_u rfl (ow_y (yh_pickF rfl rfl rfl) rfl rfl (kk_wl ?_))
        refine wl_u rfl (ow_y (yh_move rfl rfl) rfl rfl (kk_wl ?_))
        refine wl_s rfl rfl (fun c4 => ?_) (fun c4 => ?_)
        · skip
          replace h := bt c4 h
          refine wl_n rfl rfl rfl rfl ?_
          refine wl_n rfl rfl rfl rfl ?_
          refine wl_n rfl rfl rfl rfl ?_
          refine wl_u rfl (ow_y (yh_pickT rfl rfl rfl) rfl rfl (kk_wl ?_))
          refine wl_nil ?_
          refine ex_seq ?_
          refine cw_true rfl ?_
          refine cw_seq ?_
          refine cw_region ?_
          refine wl_u rfl (ow_y (yh_move rfl rfl) rfl rfl (kk_wl ?_))
          refine wl_u rfl (ow_y (yh_move rfl rfl) rfl rfl (kk_wl ?_))
          refine wl_u rfl (ow_y (yh_cmpB rfl rfl rfl rfl (by kernel_rfl)) rfl rfl (kk_wl ?_))
          refine wl_u rfl (ow_y (yh_assign rfl rfl) rfl rfl (kk_wl ?_))
          refine wl_nil ?_
          refine ex_seq ?_
          refine cw_ret ?_
          refine ex_then_ret ?_
          obtain rfl := Option.some.inj h
          exact ex_r1 Tb rfl (.tmp rfl) (fun wq hq => ⟨_, rfl, (hB1.back hq).ext, rfl⟩)
        · skip
          replace h := bf c4 h
          refine wl_g rfl rfl (ow_y (yh_move rfl rfl) rfl rfl (kk_wl ?_))
          refine wl_g rfl rfl (ow_y (yh_lenS Tb rfl rfl rfl rfl) rfl rfl (kk_wl ?_))
          refine wl_g rfl rfl (ow_y (yh_cmpI rfl rfl rfl rfl) rfl rfl (kk_wl ?_))
          refine wl_u rfl (ow_y (yh_pickF rfl rfl rfl) rfl rfl (kk_wl ?_))
          refine wl_nil ?_
          refine ex_seq ?_
          refine cw_split rfl (fun c5 => ?_) (fun c5 => ?_)
          · skip
            replace h := bt c5 h
            have q5 := eqb_true.1 c5
            refine cw_seq ?_
            refine cw_region ?_
            refine wl_u rfl (ow_y (yh_move rfl rfl) rfl rfl (kk_wl ?_))
            refine wl_u rfl (ow_y (yh_move rfl rfl) rfl rfl (kk_wl ?_))
            refine wl_u rfl (ow_y (yh_cmpB rfl rfl rfl rfl (by kernel_rfl)) rfl rfl (kk_wl ?_))
            refine wl_u rfl (ow_y (yh_assign rfl rfl) rfl rfl (kk_wl ?_))
            refine wl_nil ?_
            refine ex_seq ?_
            refine cw_ret ?_
            refine ex_then_ret ?_
            obtain rfl := Option.some.inj h
            exact ex_r1 Tb rfl (.tmp rfl) (fun wq hq => ⟨_, rfl, (hB1.back hq).ext, rfl⟩)
          · skip
            replace h := bf c5 h
            have q6 := eqb_false.1 c5
            refine cw_skip ?_
            refine ex_seq ?_
            refine cw_seq ?_
            refine cw_region ?_
            refine wl_u rfl (ow_y (yh_move rfl rfl) rfl rfl (kk_wl ?_))
            refine wl_u rfl (ow_y (yh_lenS Tb rfl rfl rfl rfl) rfl rfl (kk_wl ?_))
            refine wl_u rfl (ow_y (yh_move rfl rfl) rfl rfl (kk_wl ?_))
            refine wl_u rfl (ow_y (yh_lenS Tb rfl rfl rfl rfl) rfl rfl (kk_wl ?_))
            refine wl_u rfl (ow_y (yh_rem u1.length x20.length rfl rfl rfl rfl rfl (by omega)) rfl rfl (kk_wl ?_))
            refine wl_u rfl (ow_y (yh_assign rfl rfl) rfl rfl (kk_wl ?_))
            refine wl_nil ?_
            refine ex_seq ?_
            obtain ⟨j115, he115, hk115⟩ := bd h
            clear h
            refine cw_cut (σ := (Option Addr) × Nat × (List Nat)) (fun s => True) (fun s => [(5, .slice a20 x20.length c20), (8, .int .i64 ((u1.length % x20.length : Nat) : Int)), (9, .slice s.1 j115.length s.2.1)]) (fun s => [owC timersL s.2.2 [.slice s.1 j115.length s.2.1] j115]) (fun s hI => ?_) (fun KL hn115 => ?_)
            · skip
              obtain ⟨ak115_9, ck115_9, Fk115_9⟩ := s
              simp only at ⊢
              have h := hk115
              obtain ⟨j117, he117, hk117⟩ := bd h
              clear h
              refine cw_cut (σ := (Option Addr) × Nat × (List Nat)) (fun s => True) (fun s => [(9, .slice ak115_9 j115.length ck115_9), (10, .slice s.1 j117.length s.2.1)]) (fun s => [owC timersL Fk115_9 [.slice ak115_9 j115.length ck115_9] j115, owC timersL s.2.2 [.slice s.1 j117.length s.2.1] j117]) (fun s hI => ?_) (fun KL hn117 => ?_)
              · skip
                obtain ⟨ak117_10, ck117_10, Fk117_10⟩ := s
                simp only at ⊢
                have h := hk117
                refine cw_seq ?_
                refine cw_region ?_
                refine wl_u rfl (ow_y (yh_move rfl rfl) rfl rfl (kk_wl ?_))
                obtain ⟨x66, hx66, h⟩ := bd h
                refine wl_u rfl (ow_cV rfl hb15 rfl (fun w hw => c_impl_TimersValid N _ _ hx66 w (rdo (A := timersL) 0 rfl hw)) rfl rfl (kk_wl ?_))
                refine wl_u rfl (ow_y (yh_move rfl rfl) rfl rfl (kk_wl ?_))
                refine wl_s rfl rfl (fun c6 => ?_) (fun c6 => ?_)
                · skip
                  replace h := bt c6 h
                  refine wl_g rfl rfl (ow_y (yh_move rfl rfl) rfl rfl (kk_wl ?_))
                  obtain ⟨x69, hx69, h⟩ := bd h
                  refine wl_g rfl rfl (ow_cV rfl hb15 rfl (fun w hw => c_impl_TimersValid N _ _ hx69 w (rdo (A := timersL) 1 rfl hw)) rfl rfl (kk_wl ?_))
                  refine wl_g rfl rfl (ow_y (yh_not rfl rfl) rfl rfl (kk_wl ?_))
                  refine wl_u rfl (ow_y (yh_pickT rfl rfl rfl) rfl rfl (kk_wl ?_))
                  refine wl_u rfl (ow_y (yh_assign rfl rfl) rfl rfl (kk_wl ?_))
                  refine wl_nil ?_
                  refine ex_seq ?_
                  refine cw_ret ?_
                  obtain rfl := Option.some.inj h
                  exact ex_r1 Tb rfl (.tmp rfl) (fun wq hq => ⟨_, rfl, (hB1.back hq).ext, rfl⟩)
                · skip
                  replace h := bf c6 h
                  refine wl_n rfl rfl rfl rfl ?_
                  refine wl_n rfl rfl rfl rfl ?_
                  refine wl_n rfl rfl rfl rfl ?_
                  refine wl_u rfl (ow_y (yh_pickF rfl rfl rfl) rfl rfl (kk_wl ?_))
                  refine wl_u rfl (ow_y (yh_assign rfl rfl) rfl rfl (kk_wl ?_))
                  refine wl_nil ?_
                  refine ex_seq ?_
                  refine cw_ret ?_
                  obtain rfl := Option.some.inj h
                  exact ex_r1 Tb rfl (.tmp rfl) (fun wq hq => ⟨_, rfl, (hB1.back hq).ext, rfl⟩)
              · skip
                have h := he117
                refine cw_dr [1, 2, 3, 4, 6, 7, 8] [9, 10] [owC timersL Fk115_9 [.slice ak115_9 j115.length ck115_9] j115] (by kernel_rfl) ?_
                refine wd_take (i := 1) [0] rfl rfl rfl rfl rfl (by kernel_rfl) rfl (fun _ _ _ _ h => h) (yh_move rfl rfl) ?_
                refine wd_take (i := 2) [0] rfl rfl rfl rfl rfl (by kernel_rfl) rfl (fun _ _ _ _ h => h) (yh_move rfl rfl) ?_
                refine wd_take (i := 3) [0] rfl rfl rfl rfl rfl (by kernel_rfl) rfl (fun _ _ _ _ h => h) (yh_arW rfl rfl rfl rfl) ?_
                obtain ⟨l59, zl59, h⟩ := bd h
                obtain ⟨il59, jl59⟩ := slTo_K zl59
                have hf59 := sl_takeK hz1 zl59
                have mx59 := rd_max hf59
                refine wd_take (i := 4) [0] rfl rfl rfl rfl rfl (by kernel_rfl) rfl (fun _ _ _ _ h => h) (yh_sliceH Tb (k := l59.length) rfl rfl rfl il59 (Nat.le_trans jl59 (rd_cap hz1)) rfl rfl) ?_
                refine wd_take (i := 6) [0] rfl rfl rfl rfl rfl (by kernel_rfl) rfl (fun _ _ _ _ h => h) (yh_move rfl rfl) ?_
                refine wd_take (i := 7) [0] rfl rfl rfl rfl rfl (by kernel_rfl) rfl (fun _ _ _ _ h => h) (yh_move rfl rfl) ?_
                obtain ⟨l63, zl63, h⟩ := bd h
                obtain ⟨a63, e63, va63, ve63, il63, hf63⟩ := sl_dropK hz1 zl63
                have mx63 := rd_max hf63
                refine wd_take (i := 8) [0] rfl rfl rfl rfl rfl (by kernel_rfl) rfl (fun _ _ _ _ h => h) (yh_sliceLK Tb zl63 va63 ve63 rfl rfl rfl il63 rfl rfl) ?_
                refine wd_one 0 rfl rfl (by kernel_rfl) (ow_lit0 Tb rfl rfl rfl rfl rfl rfl (fun g55 => kk_chg (c' := owC timersL [g55] [.slice (some ⟨g55, 0, none⟩) 0 0] ([] : List Timer)) 0 rfl (fun w hA => own_timersL ([] : List Timer) hA rfl (by simp [maxLen])) rfl (kk_wd [1] rfl ?_)))
                obtain ⟨hll60, h⟩ := bd_appd h
                refine wd_one 5 rfl rfl (by kernel_rfl) (ow_appP Tb (i := 0) rfl rfl rfl rfl rfl (fun w hw => Lay.at_ hf59 hw) rfl rfl rfl rfl hll60 (by decide) rfl rfl (fun a60 c60 F60 => kk_wd [1] rfl ?_))
                obtain ⟨hll64, h⟩ := bd_appd h
                refine wd_one 9 rfl rfl (by kernel_rfl) (ow_appP Tb (i := 0) rfl rfl rfl rfl rfl (fun w hw => Lay.at_ hf63 hw) rfl rfl rfl rfl hll64 (by decide) rfl rfl (fun a64 c64 F64 => kk_wdT rfl ?_))
                refine wd_one 10 rfl rfl (by kernel_rfl) (ow_y (yh_assign rfl rfl) rfl rfl (kk_wdT rfl ?_))
                refine wd_done (by kernel_rfl) ?_
                obtain rfl := Option.some.inj h
                exact ex_next [1, 0] (hn117 (a64, c64, F64) trivial) ⟨rfl, rfl, trivial⟩ rfl
            · skip
              have h := he115
              refine cw_dr [1, 2, 3, 5, 6, 7, 8] [9, 10] [] (by kernel_rfl) ?_
              refine wd_take (i := 1) [] rfl rfl rfl rfl rfl (by kernel_rfl) rfl (fun _ _ _ _ h => h) (yh_move rfl rfl) ?_
              refine wd_take (i := 2) [] rfl rfl rfl rfl rfl (by kernel_rfl) rfl (fun _ _ _ _ h => h) (yh_move rfl rfl) ?_
              obtain ⟨l48, zl48, h⟩ := bd h
              obtain ⟨il48, jl48⟩ := slTo_K zl48
              have hf48 := sl_takeK hz1 zl48
              have mx48 := rd_max hf48
              refine wd_take (i := 3) [] rfl rfl rfl rfl rfl (by kernel_rfl) rfl (fun _ _ _ _ h => h) (yh_sliceH Tb (k := l48.length) rfl rfl rfl il48 (Nat.le_trans jl48 (rd_cap hz1)) rfl rfl) ?_
              refine wd_take (i := 5) [] rfl rfl rfl rfl rfl (by kernel_rfl) rfl (fun _ _ _ _ h => h) (yh_move rfl rfl) ?_
              refine wd_take (i := 6) [] rfl rfl rfl rfl rfl (by kernel_rfl) rfl (fun _ _ _ _ h => h) (yh_move rfl rfl) ?_
              refine wd_take (i := 7) [] rfl rfl rfl rfl rfl (by kernel_rfl) rfl (fun _ _ _ _ h => h) (yh_arW rfl rfl rfl rfl) ?_
              obtain ⟨l53, zl53, h⟩ := bd h
              obtain ⟨a53, e53, va53, ve53, il53, hf53⟩ := sl_dropK hz1 zl53
              have mx53 := rd_max hf53
              refine wd_take (i := 8) [] rfl rfl rfl rfl rfl (by kernel_rfl) rfl (fun _ _ _ _ h => h) (yh_sliceLK Tb zl53 va53 ve53 rfl rfl rfl il53 rfl rfl) ?_
              refine wd_one 0 rfl rfl (by kernel_rfl) (ow_lit0 Tb rfl rfl rfl rfl rfl rfl (fun g45 => kk_chg (c' := owC timersL [g45] [.slice (some ⟨g45, 0, none⟩) 0 0] ([] : List Timer)) 0 rfl (fun w hA => own_timersL ([] : List Timer) hA rfl (by simp [maxLen])) rfl (kk_wd [] rfl ?_)))
              obtain ⟨hll49, h⟩ := bd_appd h
              refine wd_one 4 rfl rfl (by kernel_rfl) (ow_appP Tb (i := 0) rfl rfl rfl rfl rfl (fun w hw => Lay.at_ hf48 hw) rfl rfl rfl rfl hll49 (by decide) rfl rfl (fun a49 c49 F49 => kk_wd [] rfl ?_))
              obtain ⟨hll54, h⟩ := bd_appd h
              refine wd_one 9 rfl rfl (by kernel_rfl) (ow_appP Tb (i := 0) rfl rfl rfl rfl rfl (fun w hw => Lay.at_ hf53 hw) rfl rfl rfl rfl hll54 (by decide) rfl rfl (fun a54 c54 F54 => kk_wdT rfl ?_))
              refine wd_one 10 rfl rfl (by kernel_rfl) (ow_y (yh_assign rfl rfl) rfl rfl (kk_wdT rfl ?_))
              refine wd_done (by kernel_rfl) ?_
              obtain rfl := Option.some.inj h
              exact ex_next [0] (hn115 (a54, c54, F54) trivial) ⟨rfl, rfl, rfl, trivial⟩ rfl

def m_laws_szTimer (N : Nat) (a : Timer) (left : Int) : Option (Int) := (ssz a.name).bind fun z8 => (bif ltb (w64 (left - ((a.name.size : Nat) : Int))) 0 then some (-1)
 else some (w64 (left - ((a.name.size : Nat) : Int))))

set_option maxHeartbeats 4000000 in
theorem c_laws_szTimer (N : Nat) (a : Timer) (left : Int) (res : Int) (h : m_laws_szTimer N a left = some res) (w : World) : Ret Try.prog 62 [.agg #[.int .i64 a.at_, .string a.name], .int .i64 left] w [] fun v w' => v = .int .i64 res := by
  unfold m_laws_szTimer at h
  refine ret_enter Try.func62 rfl Try.ntmps62 rfl (Hp.refl w _) ?_
  refine cw_seq ?_
  refine cw_region ?_
  refine wl_u rfl (ow_boxA rfl rfl rfl rfl (fun g2 => kk_wl ?_))
  refine wl_u rfl (ow_y (yh_assign rfl rfl) rfl rfl (kk_wl ?_))
  refine wl_nil ?_
  refine ex_seq ?_
  refine cw_seq ?_
  refine cw_region ?_
  refine wl_u rfl (ow_y (yh_move rfl rfl) rfl rfl (kk_wl ?_))
  refine wl_u rfl (ow_y (yh_field Tb rfl rfl rfl) rfl rfl (kk_wl ?_))
  refine wl_u rfl (ow_y (yh_loadB Tb (k := 0) rfl rfl rfl rfl rfl) rfl rfl (kk_wl ?_))
  obtain ⟨z8, hz8, h⟩ := bd h
  have mz8 := ssz_some hz8
  refine wl_u rfl (ow_y (yh_lenT Tb rfl rfl rfl rfl) rfl rfl (kk_wl ?_))
  refine wl_u rfl (ow_y (yh_arW rfl rfl rfl rfl) rfl rfl (kk_wl ?_))
  refine wl_u rfl (ow_y (yh_assign rfl rfl) rfl rfl (kk_wl ?_))
  refine wl_nil ?_
  refine ex_seq ?_
  refine cw_seq ?_
  refine cw_seq ?_
  refine cw_region ?_
  refine wl_u rfl (ow_y (yh_move rfl rfl) rfl rfl (kk_wl ?_))
  refine wl_u rfl (ow_y (yh_cmpI rfl rfl rfl rfl) rfl rfl (kk_wl ?_))
  refine wl_nil ?_
  refine ex_seq ?_
  refine cw_split rfl (fun c1 => ?_) (fun c1 => ?_)
  · skip
    replace h := bt c1 h
    have q1 := ltb_true.1 c1
    refine cw_seq ?_
    refine cw_region ?_
    refine wl_u rfl (ow_y (yh_assign rfl rfl) rfl rfl (kk_wl ?_))
    refine wl_nil ?_
    refine ex_seq ?_
    refine cw_ret ?_
    refine ex_then_ret ?_
    obtain rfl := Option.some.inj h
    exact ex_r1 Tb rfl (.tmp rfl) (fun wq hq => ⟨_, rfl, hq.ext, rfl⟩)
  · skip
    replace h := bf c1 h
    have q2 := ltb_false.1 c1
    refine cw_skip ?_
    refine ex_seq ?_
    refine cw_seq ?_
    refine cw_region ?_
    refine wl_u rfl (ow_y (yh_move rfl rfl) rfl rfl (kk_wl ?_))
    refine wl_u rfl (ow_y (yh_assign rfl rfl) rfl rfl (kk_wl ?_))
    refine wl_nil ?_
    refine ex_seq ?_
    refine cw_ret ?_
    obtain rfl := Option.some.inj h
    exact ex_r1 Tb rfl (.tmp rfl) (fun wq hq => ⟨_, rfl, hq.ext, rfl⟩)

def m_laws_szTimerS_L8 (N : Nat) (a : List Timer) : Nat → Int → Nat → Option (Ex (Int × Nat) (Int))
  | 0, _, _ => none
  | n + 1, s1, s5 => (bif ltb ((s5 : Nat) : Int) ((a.length : Nat) : Int) then (a[s5]?).bind fun y20 => (m_laws_szTimer N y20 s1).bind fun x23 => (bif ltb x23 0 then some (Ex.ret (-1))
 else m_laws_szTimerS_L8 N a n x23 (s5 + 1))
 else some (Ex.brk (s1, s5)))

def m_laws_szTimerS (N : Nat) (a : List Timer) (left : Int) : Option (Int) := (bif ltb (w64 (left - ((a.length : Nat) : Int))) 0 then some (-1)
 else (m_laws_szTimerS_L8 N a N (w64 (left - ((a.length : Nat) : Int))) 0).bind fun e8 => e8.go (fun r => r) fun b8 => some b8.1)

set_option maxHeartbeats 4000000 in
theorem c_laws_szTimerS (N : Nat) (a : List Timer) (left : Int) (res : Int) (h : m_laws_szTimerS N a left = some res) (w : World) {a_a : Option Addr} {c_a : Nat} (h_a : timersL.rd w [] [.slice a_a a.length c_a] a) : Ret Try.prog 17 [.slice a_a a.length c_a, .int .i64 left] w [] fun v w' => v = .int .i64 res := by
  have mh_a := rd_max h_a
  unfold m_laws_szTimerS at h
  refine ret_enter Try.func17 rfl Try.ntmps17 rfl (Hp.refl w _) ?_
  refine cw_seq ?_
  refine cw_region ?_
  refine wl_u rfl (ow_y (yh_assign rfl rfl) rfl rfl (kk_wl ?_))
  refine wl_nil ?_
  refine ex_seq ?_
  refine cw_seq ?_
  refine cw_region ?_
  refine wl_u rfl (ow_y (yh_move rfl rfl) rfl rfl (kk_wl ?_))
  refine wl_u rfl (ow_y (yh_move rfl rfl) rfl rfl (kk_wl ?_))
  refine wl_u rfl (ow_y (yh_lenS Tb rfl rfl rfl rfl) rfl rfl (kk_wl ?_))
  refine wl_u rfl (ow_y (yh_arW rfl rfl rfl rfl) rfl rfl (kk_wl ?_))
  refine wl_u rfl (ow_y (yh_assign rfl rfl) rfl rfl (kk_wl ?_))
  refine wl_nil ?_
  refine ex_seq ?_
  refine cw_seq ?_
  refine cw_seq ?_
  refine cw_region ?_
  refine wl_u rfl (ow_y (yh_move rfl rfl) rfl rfl (kk_wl ?_))
  refine wl_u rfl (ow_y (yh_cmpI rfl rfl rfl rfl) rfl rfl (kk_wl ?_))
  refine wl_nil ?_
  refine ex_seq ?_
  refine cw_split rfl (fun c1 => ?_) (fun c1 => ?_)
  · skip
    replace h := bt c1 h
    have q1 := ltb_true.1 c1
    refine cw_seq ?_
    refine cw_region ?_
    refine wl_u rfl (ow_y (yh_assign rfl rfl) rfl rfl (kk_wl ?_))
    refine wl_nil ?_
    refine ex_seq ?_
    refine cw_ret ?_
    refine ex_then_ret ?_
    obtain rfl := Option.some.inj h
    exact ex_r1 Tb rfl (.tmp rfl) (fun wq hq => ⟨_, rfl, hq.ext, rfl⟩)
  · skip
    replace h := bf c1 h
    have q2 := ltb_false.1 c1
    refine cw_skip ?_
    refine ex_seq ?_
    refine cw_seq ?_
    refine cw_seq ?_
    refine cw_region ?_
    refine wl_u rfl (ow_y (yh_assign rfl rfl) rfl rfl (kk_wl ?_))
    refine wl_nil ?_
    refine ex_seq ?_
    refine cw_block ?_
    obtain ⟨e8, he8, hk8⟩ := bd h
    clear h
    refine cw_loopG (σ := Nat × Int × Nat) (fun s => m_laws_szTimerS_L8 N a s.1 s.2.1 s.2.2 = some e8) (fun s => [(0, .slice a_a a.length c_a), (1, .int .i64 s.2.1), (5, .int .i64 ((s.2.2 : Nat) : Int))]) (fun s => []) (fun s => s.1) (N, w64 (left - ((a.length : Nat) : Int)), 0) [] he8 ⟨rfl, rfl, rfl, trivial⟩ rfl (fun KL s he8 hn8 => ?_)
    obtain ⟨n8, s1, s5⟩ := s
    simp only at he8 hn8 ⊢
    rcases n8 with _ | n8
    · exact nosome he8
    have h := he8; rw [m_laws_szTimerS_L8] at h
    refine cw_seq ?_
    refine cw_seq ?_
    refine cw_region ?_
    refine wl_u rfl (ow_y (yh_move rfl rfl) rfl rfl (kk_wl ?_))
    refine wl_u rfl (ow_y (yh_move rfl rfl) rfl rfl (kk_wl ?_))
    refine wl_u rfl (ow_y (yh_lenS Tb rfl rfl rfl rfl) rfl rfl (kk_wl ?_))
    refine wl_u rfl (ow_y (yh_cmpI rfl rfl rfl rfl) rfl rfl (kk_wl ?_))
    refine wl_nil ?_
    refine ex_seq ?_
    refine cw_split rfl (fun c2 => ?_) (fun c2 => ?_)
    · skip
      replace h := bt c2 h
      have q3 := ltb_true.1 c2
      refine cw_skip ?_
      refine ex_seq ?_
      refine cw_seq ?_
      refine cw_block ?_
      refine cw_seq ?_
      refine cw_region ?_
      refine wl_u rfl (ow_y (yh_move rfl rfl) rfl rfl (kk_wl ?_))
      refine wl_u rfl (ow_y (yh_move rfl rfl) rfl rfl (kk_wl ?_))
      obtain ⟨y20, hy20, h⟩ := bd h
      obtain ⟨b20, o20, ha20⟩ := sl_addr h_a hy20
      subst ha20
      have hc20 := get_timer h_a hy20
      refine wl_u rfl (ow_y (yh_idx Tb (k := s5) rfl rfl rfl rfl (get_lt hy20) rfl rfl) rfl rfl (kk_wl ?_))
      refine wl_u rfl (ow_y (yh_loadAN Tb rfl rfl rfl rfl hc20 rfl) rfl rfl (kk_wl ?_))
      refine wl_u rfl (ow_y (yh_move rfl rfl) rfl rfl (kk_wl ?_))
      obtain ⟨x23, hx23, h⟩ := bd h
      refine wl_u rfl (ow_cV rfl hb62 rfl (fun w hw => c_laws_szTimer N _ _ _ hx23 w) rfl rfl (kk_wl ?_))
      refine wl_u rfl (ow_y (yh_assign rfl rfl) rfl rfl (kk_wl ?_))
      refine wl_nil ?_
      refine ex_seq ?_
      refine cw_seq ?_
      refine cw_region ?_
      refine wl_u rfl (ow_y (yh_move rfl rfl) rfl rfl (kk_wl ?_))
      refine wl_u rfl (ow_y (yh_cmpI rfl rfl rfl rfl) rfl rfl (kk_wl ?_))
      refine wl_nil ?_
      refine ex_seq ?_
      refine cw_split rfl (fun c3 => ?_) (fun c3 => ?_)
      · skip
        replace h := bt c3 h
        have q4 := ltb_true.1 c3
        refine cw_seq ?_
        refine cw_region ?_
        refine wl_u rfl (ow_y (yh_assign rfl rfl) rfl rfl (kk_wl ?_))
        refine wl_nil ?_
        refine ex_seq ?_
        refine cw_ret ?_
        refine ex_block_ret ?_
        refine ex_then_ret ?_
        refine ex_then_ret ?_
        refine ex_block_ret ?_
        refine ex_then_ret ?_
        obtain rfl := Option.some.inj h
        obtain rfl := go_ret hk8
        exact ex_r1 Tb rfl (.tmp rfl) (fun wq hq => ⟨_, rfl, hq.ext, rfl⟩)
      · skip
        replace h := bf c3 h
        have q5 := ltb_false.1 c3
        refine cw_skip ?_
        refine ex_block_normal ?_
        refine ex_seq ?_
        refine cw_region ?_
        refine wl_u rfl (ow_y (yh_move rfl rfl) rfl rfl (kk_wl ?_))
        refine wl_u rfl (ow_y (yh_arI rfl rfl rfl rfl (by omega)) rfl rfl (kk_wl ?_))
        refine wl_u rfl (ow_y (yh_assign rfl rfl) rfl rfl (kk_wl ?_))
        refine wl_nil ?_
        exact ex_next [] (hn8 (n8, x23, s5 + 1) (Nat.lt_succ_self _) h) ⟨rfl, rfl, rfl, trivial⟩ rfl
    · skip
      replace h := bf c2 h
      have q6 := ltb_false.1 c2
      refine cw_exit ?_
      refine ex_then_exit ?_
      refine ex_then_exit ?_
      obtain rfl := Option.some.inj h
      have h := go_brk hk8
      refine ex_block_exit ?_
      refine ex_seq ?_
      refine cw_seq ?_
      refine cw_region ?_
      refine wl_u rfl (ow_y (yh_move rfl rfl) rfl rfl (kk_wl ?_))
      refine wl_u rfl (ow_y (yh_assign rfl rfl) rfl rfl (kk_wl ?_))
      refine wl_nil ?_
      refine ex_seq ?_
      refine cw_ret ?_
      obtain rfl := Option.some.inj h
      exact ex_r1 Tb rfl (.tmp rfl) (fun wq hq => ⟨_, rfl, hq.ext, rfl⟩)

def m_laws_toTimer (N : Nat) (a : Timer) : Option (Timer) := some a

set_option maxHeartbeats 4000000 in
theorem c_laws_toTimer (N : Nat) (a : Timer) (res : Timer) (h : m_laws_toTimer N a = some res) (w : World) : Ret Try.prog 63 [.agg #[.int .i64 a.at_, .string a.name]] w [] fun v w' => v = .agg #[.int .i64 res.at_, .string res.name] := by
  unfold m_laws_toTimer at h
  refine ret_enter Try.func63 rfl Try.ntmps63 rfl (Hp.refl w _) ?_
  refine cw_seq ?_
  refine cw_region ?_
  refine wl_u rfl (ow_boxA rfl rfl rfl rfl (fun g1 => kk_wl ?_))
  refine wl_u rfl (ow_allocA Tb rfl rfl rfl rfl (fun g2 => kk_wl ?_))
  refine wl_nil ?_
  refine ex_seq ?_
  refine cw_seq ?_
  refine cw_region ?_
  refine wl_u rfl (ow_allocA Tb rfl rfl rfl rfl (fun g3 => kk_wl ?_))
  refine wl_nil ?_
  refine ex_seq ?_
  refine cw_seq ?_
  refine cw_region ?_
  refine wl_u rfl (ow_y (yh_field Tb rfl rfl rfl) rfl rfl (kk_wl ?_))
  refine wl_u rfl (ow_y (yh_loadB Tb (k := 2) rfl rfl rfl rfl rfl) rfl rfl (kk_wl ?_))
  refine wl_u rfl (ow_y (yh_field Tb rfl rfl rfl) rfl rfl (kk_wl ?_))
  refine wl_u rfl (ow_store1 Tb (k := 0) rfl rfl rfl rfl rfl rfl rfl rfl rfl (kk_wl ?_))
  refine wl_nil ?_
  refine ex_seq ?_
  refine cw_seq ?_
  refine cw_region ?_
  refine wl_u rfl (ow_y (yh_field Tb rfl rfl rfl) rfl rfl (kk_wl ?_))
  refine wl_u rfl (ow_y (yh_loadB Tb (k := 2) rfl rfl rfl rfl rfl) rfl rfl (kk_wl ?_))
  refine wl_u rfl (ow_y (yh_field Tb rfl rfl rfl) rfl rfl (kk_wl ?_))
  refine wl_u rfl (ow_store1 Tb (k := 0) rfl rfl rfl rfl rfl rfl rfl rfl rfl (kk_wl ?_))
  refine wl_nil ?_
  refine ex_seq ?_
  refine cw_seq ?_
  refine cw_region ?_
  refine wl_u rfl (ow_y (yh_loadBA Tb (k := 0) rfl rfl rfl rfl rfl rfl) rfl rfl (kk_wl ?_))
  refine wl_u rfl (ow_storeA Tb (k := 1) rfl rfl rfl rfl rfl rfl rfl rfl rfl (kk_wl ?_))
  refine wl_nil ?_
  refine ex_seq ?_
  refine cw_ret ?_
  obtain rfl := Option.some.inj h
  exact ex_r1 Tb rfl (.cellA 0 rfl rfl rfl rfl rfl) (fun wq hq => ⟨_, rfl, hq.ext, rfl⟩)

def m_laws_toTimerS_L5 (N : Nat) (a : List Timer) : Nat → (List Timer) → Nat → Option (Ex (List Timer × Nat) (List Timer))
  | 0, _, _ => none
  | n + 1, s3, s4 => (bif ltb ((s4 : Nat) : Int) ((a.length : Nat) : Int) then (a[s4]?).bind fun y18 => (m_laws_toTimer N y18).bind fun x20 => (s3[s4]?).bind fun y21 => m_laws_toTimerS_L5 N a n (s3.set s4 x20) (s4 + 1)
 else some (Ex.brk (s3, s4)))

def m_laws_toTimerS (N : Nat) (a : List Timer) : Option (List Timer) := (mkl a.length (Timer.mk 0 (⟨#[]⟩ : Str))).bind fun l7 => (m_laws_toTimerS_L5 N a N (List.replicate a.length (Timer.mk 0 (⟨#[]⟩ : Str))) 0).bind fun e5 => e5.go (fun r => r) fun b5 => some b5.1

set_option maxHeartbeats 4000000 in
theorem c_laws_toTimerS (N : Nat) (a : List Timer) (res : List Timer) (h : m_laws_toTimerS N a = some res) (w : World) {a_a : Option Addr} {c_a : Nat} (h_a : timersL.rd w [] [.slice a_a a.length c_a] a) : Ret Try.prog 18 [.slice a_a a.length c_a] w [] fun v w' => ∃ a1 c1 F1, v = .slice a1 res.length c1 ∧ NewC w w' [owC timersL F1 [.slice a1 res.length c1] res] := by
  have mh_a := rd_max h_a
  unfold m_laws_toTimerS at h
  refine ret_enter Try.func18 rfl Try.ntmps18 rfl (Hp.refl w _) ?_
  refine cw_seq ?_
  refine cw_region ?_
  refine wl_u rfl (ow_y (yh_assign rfl rfl) rfl rfl (kk_wl ?_))
  refine wl_nil ?_
  refine ex_seq ?_
  refine cw_seq ?_
  refine cw_region ?_
  refine wl_u rfl (ow_y (yh_move rfl rfl) rfl rfl (kk_wl ?_))
  refine wl_u rfl (ow_y (yh_lenS Tb rfl rfl rfl rfl) rfl rfl (kk_wl ?_))
  obtain ⟨hll7, h⟩ := bd_mkl h
  refine wl_u rfl (ow_makeK Tb (A := timerL) (n := a.length) (z0 := (Timer.mk 0 (⟨#[]⟩ : Str))) rfl rfl rfl rfl rfl rfl rfl rfl rfl (fun w => ⟨rfl, rfl⟩) hll7 rfl rfl rfl (fun g7 => kk_wl ?_))
  refine wl_u rfl (ow_y (yh_assign rfl rfl) rfl rfl (kk_wl ?_))
  refine wl_nil ?_
  refine ex_seq ?_
  refine cw_seq ?_
  refine cw_seq ?_
  refine cw_region ?_
  refine wl_u rfl (ow_y (yh_assign rfl rfl) rfl rfl (kk_wl ?_))
  refine wl_nil ?_
  refine ex_seq ?_
  refine cw_block ?_
  obtain ⟨e5, he5, hk5⟩ := bd h
  clear h
  refine cw_loopG (σ := Nat × (List Timer) × Nat × (List Nat)) (fun s => m_laws_toTimerS_L5 N a s.1 s.2.1 s.2.2.1 = some e5) (fun s => [(0, .slice a_a a.length c_a), (3, .slice (some ⟨g7, 0, none⟩) a.length a.length), (4, .int .i64 ((s.2.2.1 : Nat) : Int))]) (fun s => [owC timersL s.2.2.2 [.slice (some ⟨g7, 0, none⟩) a.length a.length] s.2.1]) (fun s => s.1) (N, (List.replicate a.length (Timer.mk 0 (⟨#[]⟩ : Str))), 0, [g7]) [0] he5 ⟨rfl, rfl, rfl, trivial⟩ rfl (fun KL s he5 hn5 => ?_)
  obtain ⟨n5, s3, s4, Fs3⟩ := s
  simp only at he5 hn5 ⊢
  rcases n5 with _ | n5
  · exact nosome he5
  have h := he5; rw [m_laws_toTimerS_L5] at h
  refine cw_seq ?_
  refine cw_seq ?_
  refine cw_region ?_
  refine wl_u rfl (ow_y (yh_move rfl rfl) rfl rfl (kk_wl ?_))
  refine wl_u rfl (ow_y (yh_move rfl rfl) rfl rfl (kk_wl ?_))
  refine wl_u rfl (ow_y (yh_lenS Tb rfl rfl rfl rfl) rfl rfl (kk_wl ?_))
  refine wl_u rfl (ow_y (yh_cmpI rfl rfl rfl rfl) rfl rfl (kk_wl ?_))
  refine wl_nil ?_
  refine ex_seq ?_
  refine cw_split rfl (fun c1 => ?_) (fun c1 => ?_)
  · skip
    replace h := bt c1 h
    have q1 := ltb_true.1 c1
    refine cw_skip ?_
    refine ex_seq ?_
    refine cw_seq ?_
    refine cw_block ?_
    refine cw_region ?_
    refine wl_u rfl (ow_y (yh_move rfl rfl) rfl rfl (kk_wl ?_))
    refine wl_u rfl (ow_y (yh_move rfl rfl) rfl rfl (kk_wl ?_))
    refine wl_u rfl (ow_y (yh_move rfl rfl) rfl rfl (kk_wl ?_))
    refine wl_u rfl (ow_y (yh_move rfl rfl) rfl rfl (kk_wl ?_))
    obtain ⟨y18, hy18, h⟩ := bd h
    obtain ⟨b18, o18, ha18⟩ := sl_addr h_a hy18
    subst ha18
    have hc18 := get_timer h_a hy18
    refine wl_u rfl (ow_y (yh_idx Tb (k := s4) rfl rfl rfl rfl (get_lt hy18) rfl rfl) rfl rfl (kk_wl ?_))
    refine wl_u rfl (ow_y (yh_loadAN Tb rfl rfl rfl rfl hc18 rfl) rfl rfl (kk_wl ?_))
    obtain ⟨x20, hx20, h⟩ := bd h
    refine wl_u rfl (ow_cV rfl hb63 rfl (fun w hw => c_laws_toTimer N _ _ hx20 w) rfl rfl (kk_wl ?_))
    obtain ⟨y21, hy21, h⟩ := bd h
    refine wl_know (a.length = s3.length) (fun w hw => own_lenK 0 rfl hw) (fun hn21 => ?_)
    refine wl_u rfl (ow_y (yh_idx Tb (k := s4) rfl rfl rfl rfl (Nat.lt_of_lt_of_eq (get_lt hy21) hn21.symm) rfl rfl) rfl rfl (kk_wl ?_))
    refine wl_u rfl (ow_setP Tb (u := x20) 0 rfl rfl rfl rfl rfl (get_lt hy21) rfl rfl (fun Fs14 => kk_wl ?_))
    refine wl_nil ?_
    refine ex_block_normal ?_
    refine ex_seq ?_
    refine cw_region ?_
    refine wl_u rfl (ow_y (yh_move rfl rfl) rfl rfl (kk_wl ?_))
    refine wl_u rfl (ow_y (yh_arI rfl rfl rfl rfl (by omega)) rfl rfl (kk_wl ?_))
    refine wl_u rfl (ow_y (yh_assign rfl rfl) rfl rfl (kk_wl ?_))
    refine wl_nil ?_
    exact ex_next [0] (hn5 (n5, (s3.set s4 x20), s4 + 1, Fs14) (Nat.lt_succ_self _) h) ⟨rfl, rfl, rfl, trivial⟩ rfl
  · skip
    replace h := bf c1 h
    have q2 := ltb_false.1 c1
    refine cw_exit ?_
    refine ex_then_exit ?_
    refine ex_then_exit ?_
    obtain rfl := Option.some.inj h
    have h := go_brk hk5
    refine ex_block_exit ?_
    refine ex_seq ?_
    refine cw_seq ?_
    refine cw_region ?_
    refine wl_u rfl (ow_y (yh_move rfl rfl) rfl rfl (kk_wl ?_))
    refine wl_u rfl (ow_y (yh_assign rfl rfl) rfl rfl (kk_wl ?_))
    refine wl_nil ?_
    refine ex_seq ?_
    refine cw_ret ?_
    refine ex_know (a.length = s3.length) (fun w hw => own_lenK 0 rfl hw) (fun hn0_ => ?_)
    obtain rfl := Option.some.inj h
    exact ex_r1 Tb rfl (.tmp rfl) (fun wq hq => ⟨_, rfl, hq.ext, ⟨(some ⟨g7, 0, none⟩), a.length, Fs3, (by simp only [hn0_]), (by simp only [← hn0_]; exact NewC.sel [0] hq rfl)⟩⟩)

def m_laws_eqTimer (N : Nat) (a : Timer) (b : Timer) : Option (Bool) := (bif !(eqb a.at_ b.at_) then some false
 else (bif !(seq a.name b.name) then some false
 else some true))

set_option maxHeartbeats 4000000 in
theorem c_laws_eqTimer (N : Nat) (a : Timer) (b : Timer) (res : Bool) (h : m_laws_eqTimer N a b = some res) (w : World) : Ret Try.prog 64 [.agg #[.int .i64 a.at_, .string a.name], .agg #[.int .i64 b.at_, .string b.name]] w [] fun v w' => v = .bool res := by
  unfold m_laws_eqTimer at h
  refine ret_enter Try.func64 rfl Try.ntmps64 rfl (Hp.refl w _) ?_
  refine cw_seq ?_
  refine cw_region ?_
  refine wl_u rfl (ow_boxA rfl rfl rfl rfl (fun g2 => kk_wl ?_))
  refine wl_u rfl (ow_boxA rfl rfl rfl rfl (fun g3 => kk_wl ?_))
  refine wl_u rfl (ow_y (yh_assign rfl rfl) rfl rfl (kk_wl ?_))
  refine wl_nil ?_
  refine ex_seq ?_
  refine cw_seq ?_
  refine cw_seq ?_
  refine cw_region ?_
  refine wl_u rfl (ow_y (yh_field Tb rfl rfl rfl) rfl rfl (kk_wl ?_))
  refine wl_u rfl (ow_y (yh_loadB Tb (k := 1) rfl rfl rfl rfl rfl) rfl rfl (kk_wl ?_))
  refine wl_u rfl (ow_y (yh_field Tb rfl rfl rfl) rfl rfl (kk_wl ?_))
  refine wl_u rfl (ow_y (yh_loadB Tb (k := 0) rfl rfl rfl rfl rfl) rfl rfl (kk_wl ?_))
  refine wl_u rfl (ow_y (yh_cmpI rfl rfl rfl rfl) rfl rfl (kk_wl ?_))
  refine wl_nil ?_
  refine ex_seq ?_
  refine cw_split rfl (fun c1 => ?_) (fun c1 => ?_)
  · skip
    replace h := bt c1 h
    have q1 := eqb_false.1 (nt c1)
    refine cw_seq ?_
    refine cw_region ?_
    refine wl_u rfl (ow_y (yh_assign rfl rfl) rfl rfl (kk_wl ?_))
    refine wl_nil ?_
    refine ex_seq ?_
    refine cw_ret ?_
    refine ex_then_ret ?_
    obtain rfl := Option.some.inj h
    exact ex_r1 Tb rfl (.tmp rfl) (fun wq hq => ⟨_, rfl, hq.ext, rfl⟩)
  · skip
    replace h := bf c1 h
    have q2 := eqb_true.1 (nf c1)
    refine cw_skip ?_
    refine ex_seq ?_
    refine cw_seq ?_
    refine cw_seq ?_
    refine cw_region ?_
    refine wl_u rfl (ow_y (yh_field Tb rfl rfl rfl) rfl rfl (kk_wl ?_))
    refine wl_u rfl (ow_y (yh_loadB Tb (k := 1) rfl rfl rfl rfl rfl) rfl rfl (kk_wl ?_))
    refine wl_u rfl (ow_y (yh_field Tb rfl rfl rfl) rfl rfl (kk_wl ?_))
    refine wl_u rfl (ow_y (yh_loadB Tb (k := 0) rfl rfl rfl rfl rfl) rfl rfl (kk_wl ?_))
    refine wl_u rfl (ow_y (yh_cmpS rfl rfl rfl rfl) rfl rfl (kk_wl ?_))
    refine wl_nil ?_
    refine ex_seq ?_
    refine cw_split rfl (fun c2 => ?_) (fun c2 => ?_)
    · skip
      replace h := bt c2 h
      refine cw_seq ?_
      refine cw_region ?_
      refine wl_u rfl (ow_y (yh_assign rfl rfl) rfl rfl (kk_wl ?_))
      refine wl_nil ?_
      refine ex_seq ?_
      refine cw_ret ?_
      refine ex_then_ret ?_
      obtain rfl := Option.some.inj h
      exact ex_r1 Tb rfl (.tmp rfl) (fun wq hq => ⟨_, rfl, hq.ext, rfl⟩)
    · skip
      replace h := bf c2 h
      refine cw_skip ?_
      refine ex_seq ?_
      refine cw_seq ?_
      refine cw_region ?_
      refine wl_u rfl (ow_y (yh_assign rfl rfl) rfl rfl (kk_wl ?_))
      refine wl_nil ?_
      refine ex_seq ?_
      refine cw_ret ?_
      obtain rfl := Option.some.inj h
      exact ex_r1 Tb rfl (.tmp rfl) (fun wq hq => ⟨_, rfl, hq.ext, rfl⟩)

def m_laws_eqTimerS_L8 (N : Nat) (a : List Timer) (b : List Timer) : Nat → Nat → Option (Ex (Nat) (Bool))
  | 0, _ => none
  | n + 1, s5 => (bif ltb ((s5 : Nat) : Int) ((a.length : Nat) : Int) then (a[s5]?).bind fun y19 => (b[s5]?).bind fun y23 => (m_laws_eqTimer N y19 y23).bind fun x25 => (bif !x25 then some (Ex.ret false)
 else m_laws_eqTimerS_L8 N a b n (s5 + 1))
 else some (Ex.brk (s5)))

def m_laws_eqTimerS (N : Nat) (a : List Timer) (b : List Timer) : Option (Bool) := (bif !(eqb ((a.length : Nat) : Int) ((b.length : Nat) : Int)) then some false
 else (m_laws_eqTimerS_L8 N a b N 0).bind fun e8 => e8.go (fun r => r) fun b8 => some true)

set_option maxHeartbeats 4000000 in
theorem c_laws_eqTimerS (N : Nat) (a : List Timer) (b : List Timer) (res : Bool) (h : m_laws_eqTimerS N a b = some res) (w : World) {a_a a_b : Option Addr} {c_a c_b : Nat} (h_a : timersL.rd w [] [.slice a_a a.length c_a] a) (h_b : timersL.rd w [] [.slice a_b b.length c_b] b) : Ret Try.prog 19 [.slice a_a a.length c_a, .slice a_b b.length c_b] w [] fun v w' => v = .bool res := by
  have mh_a := rd_max h_a
  have mh_b := rd_max h_b
  unfold m_laws_eqTimerS at h
  refine ret_enter Try.func19 rfl Try.ntmps19 rfl (Hp.refl w _) ?_
  refine cw_seq ?_
  refine cw_region ?_
  refine wl_u rfl (ow_y (yh_assign rfl rfl) rfl rfl (kk_wl ?_))
  refine wl_nil ?_
  refine ex_seq ?_
  refine cw_seq ?_
  refine cw_seq ?_
  refine cw_region ?_
  refine wl_u rfl (ow_y (yh_move rfl rfl) rfl rfl (kk_wl ?_))
  refine wl_u rfl (ow_y (yh_lenS Tb rfl rfl rfl rfl) rfl rfl (kk_wl ?_))
  refine wl_u rfl (ow_y (yh_move rfl rfl) rfl rfl (kk_wl ?_))
  refine wl_u rfl (ow_y (yh_lenS Tb rfl rfl rfl rfl) rfl rfl (kk_wl ?_))
  refine wl_u rfl (ow_y (yh_cmpI rfl rfl rfl rfl) rfl rfl (kk_wl ?_))
  refine wl_nil ?_
  refine ex_seq ?_
  refine cw_split rfl (fun c1 => ?_) (fun c1 => ?_)
  · skip
    replace h := bt c1 h
    have q1 := eqb_false.1 (nt c1)
    refine cw_seq ?_
    refine cw_region ?_
    refine wl_u rfl (ow_y (yh_assign rfl rfl) rfl rfl (kk_wl ?_))
    refine wl_nil ?_
    refine ex_seq ?_
    refine cw_ret ?_
    refine ex_then_ret ?_
    obtain rfl := Option.some.inj h
    exact ex_r1 Tb rfl (.tmp rfl) (fun wq hq => ⟨_, rfl, hq.ext, rfl⟩)
  · skip
    replace h := bf c1 h
    have q2 := eqb_true.1 (nf c1)
    refine cw_skip ?_
    refine ex_seq ?_
    refine cw_seq ?_
    refine cw_seq ?_
    refine cw_region ?_
    refine wl_u rfl (ow_y (yh_assign rfl rfl) rfl rfl (kk_wl ?_))
    refine wl_nil ?_
    refine ex_seq ?_
    refine cw_block ?_
    obtain ⟨e8, he8, hk8⟩ := bd h
    clear h
    refine cw_loopG (σ := Nat × Nat) (fun s => m_laws_eqTimerS_L8 N a b s.1 s.2 = some e8) (fun s => [(0, .slice a_a a.length c_a), (1, .slice a_b b.length c_b), (5, .int .i64 ((s.2 : Nat) : Int))]) (fun s => []) (fun s => s.1) (N, 0) [] he8 ⟨rfl, rfl, rfl, trivial⟩ rfl (fun KL s he8 hn8 => ?_)
    obtain ⟨n8, s5⟩ := s
    simp only at he8 hn8 ⊢
    rcases n8 with _ | n8
    · exact nosome he8
    have h := he8; rw [m_laws_eqTimerS_L8] at h
    refine cw_seq ?_
    refine cw_seq ?_
    refine cw_region ?_
    refine wl_u rfl (ow_y (yh_move rfl rfl) rfl rfl (kk_wl ?_))
    refine wl_u rfl (ow_y (yh_move rfl rfl) rfl rfl (kk_wl ?_))
    refine wl_u rfl (ow_y (yh_lenS Tb rfl rfl rfl rfl) rfl rfl (kk_wl ?_))
    refine wl_u rfl (ow_y (yh_cmpI rfl rfl rfl rfl) rfl rfl (kk_wl ?_))
    refine wl_nil ?_
    refine ex_seq ?_
    refine cw_split rfl (fun c2 => ?_) (fun c2 => ?_)
    · skip
      replace h := bt c2 h
      have q3 := ltb_true.1 c2
      refine cw_skip ?_
      refine ex_seq ?_
      refine cw_seq ?_
      refine cw_block ?_
      refine cw_seq ?_
      refine cw_dr [0, 1, 2, 3, 4, 5, 6, 7, 9] [] [] (by kernel_rfl) ?_
      refine wd_take (i := 0) [] rfl rfl rfl rfl rfl (by kernel_rfl) rfl (fun _ _ _ _ h => h) (yh_move rfl rfl) ?_
      refine wd_take (i := 1) [] rfl rfl rfl rfl rfl (by kernel_rfl) rfl (fun _ _ _ _ h => h) (yh_move rfl rfl) ?_
      obtain ⟨y19, hy19, h⟩ := bd h
      obtain ⟨b19, o19, ha19⟩ := sl_addr h_a hy19
      subst ha19
      have hc19 := get_timer h_a hy19
      refine wd_take (i := 2) [] rfl rfl rfl rfl rfl (by kernel_rfl) rfl (fun _ _ _ _ h => h) (yh_idx Tb (k := s5) rfl rfl rfl rfl (get_lt hy19) rfl rfl) ?_
      refine wd_take (i := 3) [] rfl rfl rfl rfl rfl (by kernel_rfl) rfl (fun _ _ _ _ h => h) (yh_loadAN Tb rfl rfl rfl rfl hc19 rfl) ?_
      refine wd_take (i := 4) [] rfl rfl rfl rfl rfl (by kernel_rfl) rfl (fun _ _ _ _ h => h) (yh_move rfl rfl) ?_
      refine wd_take (i := 5) [] rfl rfl rfl rfl rfl (by kernel_rfl) rfl (fun _ _ _ _ h => h) (yh_move rfl rfl) ?_
      obtain ⟨y23, hy23, h⟩ := bd h
      obtain ⟨b23, o23, ha23⟩ := sl_addr h_b hy23
      subst ha23
      have hc23 := get_timer h_b hy23
      refine wd_take (i := 6) [] rfl rfl rfl rfl rfl (by kernel_rfl) rfl (fun _ _ _ _ h => h) (yh_idx Tb (k := s5) rfl rfl rfl rfl (get_lt hy23) rfl rfl) ?_
      refine wd_take (i := 7) [] rfl rfl rfl rfl rfl (by kernel_rfl) rfl (fun _ _ _ _ h => h) (yh_loadAN Tb rfl rfl rfl rfl hc23 rfl) ?_
      obtain ⟨x25, hx25, h⟩ := bd h
      refine wd_one 8 rfl rfl (by kernel_rfl) (ow_cV rfl hb64 rfl (fun w hw => c_laws_eqTimer N _ _ _ hx25 w) rfl rfl (kk_wd [] rfl ?_))
      refine wd_take (i := 9) [] rfl rfl rfl rfl rfl (by kernel_rfl) rfl (fun _ _ _ _ h => h) (yh_not rfl rfl) ?_
      refine wd_done (by kernel_rfl) ?_
      refine ex_seq ?_
      refine cw_split rfl (fun c3 => ?_) (fun c3 => ?_)
      · skip
        replace h := bt c3 h
        refine cw_seq ?_
        refine cw_region ?_
        refine wl_u rfl (ow_y (yh_assign rfl rfl) rfl rfl (kk_wl ?_))
        refine wl_nil ?_
        refine ex_seq ?_
        refine cw_ret ?_
        refine ex_block_ret ?_
        refine ex_then_ret ?_
        refine ex_then_ret ?_
        refine ex_block_ret ?_
        refine ex_then_ret ?_
        obtain rfl := Option.some.inj h
        obtain rfl := go_ret hk8
        exact ex_r1 Tb rfl (.tmp rfl) (fun wq hq => ⟨_, rfl, hq.ext, rfl⟩)
      · skip
        replace h := bf c3 h
        refine cw_skip ?_
        refine ex_block_normal ?_
        refine ex_seq ?_
        refine cw_region ?_
        refine wl_u rfl (ow_y (yh_move rfl rfl) rfl rfl (kk_wl ?_))
        refine wl_u rfl (ow_y (yh_arI rfl rfl rfl rfl (by omega)) rfl rfl (kk_wl ?_))
        refine wl_u rfl (ow_y (yh_assign rfl rfl) rfl rfl (kk_wl ?_))
        refine wl_nil ?_
        exact ex_next [] (hn8 (n8, s5 + 1) (Nat.lt_succ_self _) h) ⟨rfl, rfl, rfl, trivial⟩ rfl
    · skip
      replace h := bf c2 h
      have q4 := ltb_false.1 c2
      refine cw_exit ?_
      refine ex_then_exit ?_
      refine ex_then_exit ?_
      obtain rfl := Option.some.inj h
      have h := go_brk hk8
      refine ex_block_exit ?_
      refine ex_seq ?_
      refine cw_seq ?_
      refine cw_region ?_
      refine wl_u rfl (ow_y (yh_assign rfl rfl) rfl rfl (kk_wl ?_))
      refine wl_nil ?_
      refine ex_seq ?_
      refine cw_ret ?_
      obtain rfl := Option.some.inj h
      exact ex_r1 Tb rfl (.tmp rfl) (fun wq hq => ⟨_, rfl, hq.ext, rfl⟩)

def m_laws_FnExactTimersValid (N : Nat) (aList : List Timer) : Option (Bool) := (m_laws_szTimerS N aList 1048576).bind fun x9 => (bif ltb x9 0 then some true
 else (m_laws_toTimerS N aList).bind fun x13 => (m_spec_TimersValid N x13).bind fun x14 => (m_laws_toTimerS N aList).bind fun x16 => (m_impl_TimersValid N x16).bind fun x18 => (bif x18 != x14 then some false
 else (m_laws_toTimerS N aList).bind fun x24 => (m_laws_eqTimerS N x16 x24).bind fun x25 => (bif !x25 then some false
 else some true)))

set_option maxHeartbeats 4000000 in
theorem c_laws_FnExactTimersValid (N : Nat) (aList : List Timer) (res : Bool) (h : m_laws_FnExactTimersValid N aList = some res) (w : World) {a_aList : Option Addr} {c_aList : Nat} (h_aList : timersL.rd w [] [.slice a_aList aList.length c_aList] aList) : Ret Try.prog 4 [.slice a_aList aList.length c_aList] w [] fun v w' => v = .bool res := by
  have mh_aList := rd_max h_aList
  unfold m_laws_FnExactTimersValid at h
  refine ret_enter Try.func4 rfl Try.ntmps4 rfl (Hp.refl w _) ?_
  refine cw_seq ?_
  refine cw_region ?_
  refine wl_u rfl (ow_y (yh_assign rfl rfl) rfl rfl (kk_wl ?_))
  refine wl_nil ?_
  refine ex_seq ?_
  refine cw_seq ?_
  refine cw_region ?_
  refine wl_u rfl (ow_y (yh_assign rfl rfl) rfl rfl (kk_wl ?_))
  refine wl_nil ?_
  refine ex_seq ?_
  refine cw_seq ?_
  refine cw_region ?_
  refine wl_u rfl (ow_y (yh_move rfl rfl) rfl rfl (kk_wl ?_))
  refine wl_u rfl (ow_y (yh_move rfl rfl) rfl rfl (kk_wl ?_))
  obtain ⟨x9, hx9, h⟩ := bd h
  refine wl_u rfl (ow_cV rfl hb17 rfl (fun w hw => c_laws_szTimerS N _ _ _ hx9 w (Lay.at_ h_aList hw)) rfl rfl (kk_wl ?_))
  refine wl_u rfl (ow_y (yh_assign rfl rfl) rfl rfl (kk_wl ?_))
  refine wl_nil ?_
  refine ex_seq ?_
  refine cw_seq ?_
  refine cw_seq ?_
  refine cw_region ?_
  refine wl_u rfl (ow_y (yh_move rfl rfl) rfl rfl (kk_wl ?_))
  refine wl_u rfl (ow_y (yh_cmpI rfl rfl rfl rfl) rfl rfl (kk_wl ?_))
  refine wl_nil ?_
  refine ex_seq ?_
  refine cw_split rfl (fun c1 => ?_) (fun c1 => ?_)
  · skip
    replace h := bt c1 h
    have q1 := ltb_true.1 c1
    refine cw_seq ?_
    refine cw_region ?_
    refine wl_u rfl (ow_y (yh_assign rfl rfl) rfl rfl (kk_wl ?_))
    refine wl_nil ?_
    refine ex_seq ?_
    refine cw_ret ?_
    refine ex_then_ret ?_
    obtain rfl := Option.some.inj h
    exact ex_r1 Tb rfl (.tmp rfl) (fun wq hq => ⟨_, rfl, hq.ext, rfl⟩)
  · skip
    replace h := bf c1 h
    have q2 := ltb_false.1 c1
    refine cw_skip ?_
    refine ex_seq ?_
    refine cw_seq ?_
    refine cw_region ?_
    refine wl_u rfl (ow_y (yh_move rfl rfl) rfl rfl (kk_wl ?_))
    obtain ⟨x13, hx13, h⟩ := bd h
    refine wl_u rfl (ow_cN1 rfl hb18 rfl (fun w hw => c_laws_toTimerS N _ _ hx13 w (Lay.at_ h_aList hw)) rfl rfl (fun a13 c13 F13 => kk_wl ?_))
    obtain ⟨x14, hx14, h⟩ := bd h
    refine wl_u rfl (ow_cV rfl hb16 rfl (fun w hw => c_spec_TimersValid N _ _ hx14 w (rdo (A := timersL) 0 rfl hw)) rfl rfl (kk_wl ?_))
    refine wl_u rfl (ow_y (yh_assign rfl rfl) rfl rfl (kk_wl ?_))
    refine wl_nil ?_
    refine ex_seq ?_
    refine cw_seq ?_
    refine cw_region ?_
    refine wl_u rfl (ow_y (yh_move rfl rfl) rfl rfl (kk_wl ?_))
    obtain ⟨x16, hx16, h⟩ := bd h
    refine wl_u rfl (ow_cN1 rfl hb18 rfl (fun w hw => c_laws_toTimerS N _ _ hx16 w (Lay.at_ h_aList hw)) rfl rfl (fun a16 c16 F16 => kk_wl ?_))
    refine wl_u rfl (ow_y (yh_assign rfl rfl) rfl rfl (kk_wl ?_))
    refine wl_nil ?_
    refine ex_seq ?_
    refine cw_seq ?_
    refine cw_region ?_
    refine wl_u rfl (ow_y (yh_move rfl rfl) rfl rfl (kk_wl ?_))
    obtain ⟨x18, hx18, h⟩ := bd h
    refine wl_u rfl (ow_cV rfl hb15 rfl (fun w hw => c_impl_TimersValid N _ _ hx18 w (rdo (A := timersL) 0 rfl hw)) rfl rfl (kk_wl ?_))
    refine wl_u rfl (ow_y (yh_assign rfl rfl) rfl rfl (kk_wl ?_))
    refine wl_nil ?_
    refine ex_seq ?_
    refine cw_seq ?_
    refine cw_seq ?_
    refine cw_region ?_
    refine wl_u rfl (ow_y (yh_move rfl rfl) rfl rfl (kk_wl ?_))
    refine wl_u rfl (ow_y (yh_move rfl rfl) rfl rfl (kk_wl ?_))
    refine wl_u rfl (ow_y (yh_cmpB rfl rfl rfl rfl (by kernel_rfl)) rfl rfl (kk_wl ?_))
    refine wl_nil ?_
    refine ex_seq ?_
    refine cw_split rfl (fun c2 => ?_) (fun c2 => ?_)
    · skip
      replace h := bt c2 h
      refine cw_seq ?_
      refine cw_region ?_
      refine wl_u rfl (ow_y (yh_assign rfl rfl) rfl rfl (kk_wl ?_))
      refine wl_nil ?_
      refine ex_seq ?_
      refine cw_ret ?_
      refine ex_then_ret ?_
      obtain rfl := Option.some.inj h
      exact ex_r1 Tb rfl (.tmp rfl) (fun wq hq => ⟨_, rfl, hq.ext, rfl⟩)
    · skip
      replace h := bf c2 h
      refine cw_skip ?_
      refine ex_seq ?_
      refine cw_seq ?_
      refine cw_seq ?_
      refine cw_region ?_
      refine wl_u rfl (ow_y (yh_move rfl rfl) rfl rfl (kk_wl ?_))
      refine wl_u rfl (ow_y (yh_move rfl rfl) rfl rfl (kk_wl ?_))
      obtain ⟨x24, hx24, h⟩ := bd h
      refine wl_u rfl (ow_cN1 rfl hb18 rfl (fun w hw => c_laws_toTimerS N _ _ hx24 w (Lay.at_ h_aList hw)) rfl rfl (fun a24 c24 F24 => kk_wl ?_))
      obtain ⟨x25, hx25, h⟩ := bd h
      refine wl_u rfl (ow_cV rfl hb19 rfl (fun w hw => c_laws_eqTimerS N _ _ _ hx25 w (rdo (A := timersL) 1 rfl hw) (rdo (A := timersL) 0 rfl hw)) rfl rfl (kk_wl ?_))
      refine wl_u rfl (ow_y (yh_not rfl rfl) rfl rfl (kk_wl ?_))
      refine wl_nil ?_
      refine ex_seq ?_
      refine cw_split rfl (fun c3 => ?_) (fun c3 => ?_)
      · skip
        replace h := bt c3 h
        refine cw_seq ?_
        refine cw_region ?_
        refine wl_u rfl (ow_y (yh_assign rfl rfl) rfl rfl (kk_wl ?_))
        refine wl_nil ?_
        refine ex_seq ?_
        refine cw_ret ?_
        refine ex_then_ret ?_
        obtain rfl := Option.some.inj h
        exact ex_r1 Tb rfl (.tmp rfl) (fun wq hq => ⟨_, rfl, hq.ext, rfl⟩)
      · skip
        replace h := bf c3 h
        refine cw_skip ?_
        refine ex_seq ?_
        refine cw_seq ?_
        refine cw_region ?_
        refine wl_u rfl (ow_y (yh_assign rfl rfl) rfl rfl (kk_wl ?_))
        refine wl_nil ?_
        refine ex_seq ?_
        refine cw_ret ?_
        obtain rfl := Option.some.inj h
        exact ex_r1 Tb rfl (.tmp rfl) (fun wq hq => ⟨_, rfl, hq.ext, rfl⟩)

def m_spec_DrawTimersDue (N : Nat) (code : List UInt8) : Option (List Timer × Int) := (m_spec_l92Timers N (code.take 2000) 0).bind fun x9 => (((bif ltb 0 ((x9.1.length : Nat) : Int) then (m_spec_l6Rd_pick N (code.take 2000) x9.2 3).bind fun x15 => some (x15.2, eqb x15.1 0)
 else some (x9.2, false)) : Option (Nat × Bool)).bind fun j105 => (bif j105.2 then (m_spec_l6Rd_pick N (code.take 2000) j105.1 ((x9.1.length : Nat) : Int)).bind fun x23 => (geti x9.1 x23.1).bind fun y24 => some (Ex.ret (x9.1, y24.at_))
 else some (Ex.brk j105.1)) : Option (Ex (Nat) (List Timer × Int))).bind fun e104 => e104.go (fun r => r) fun j104 => (m_spec_l6Rd_pick N (code.take 2000) j104 100).bind fun x29 => (m_spec_l6Rd_pick N (code.take 2000) x29.2 30).bind fun x31 => some (x9.1, w64 (x29.1 - (w64 ((w64 (Int.tdiv x31.1 29)) * 100))))

set_option maxHeartbeats 4000000 in
theorem c_spec_DrawTimersDue (N : Nat) (code : List UInt8) (res : List Timer × Int) (h : m_spec_DrawTimersDue N code = some res) (w : World) {a_code : Option Addr} {c_code : Nat} (h_code : bytesL.rd w [] [.slice a_code code.length c_code] code) : Ret Try.prog 20 [.slice a_code code.length c_code] w [] fun v w' => ∃ a1 c1 F1, v = .tuple #[.slice a1 res.1.length c1, .int .i64 res.2] ∧ NewC w w' [owC timersL F1 [.slice a1 res.1.length c1] res.1] := by
  have mh_code := rd_max h_code
  unfold m_spec_DrawTimersDue at h
  refine ret_enter Try.func20 rfl Try.ntmps20 rfl (Hp.refl w _) ?_
  refine cw_seq ?_
  refine cw_region ?_
  refine wl_u rfl (ow_y (yh_assign rfl rfl) rfl rfl (kk_wl ?_))
  refine wl_u rfl (ow_y (yh_assign rfl rfl) rfl rfl (kk_wl ?_))
  refine wl_nil ?_
  refine ex_seq ?_
  refine cw_seq ?_
  refine cw_region ?_
  refine wl_u rfl (ow_y (yh_move rfl rfl) rfl rfl (kk_wl ?_))
  have hf7 := take_fact h_code 2000
  refine wl_u rfl (ow_open rfl rfl (fun w hw => Lay.at_ h_code hw) rfl rfl (fun g7 => kk_wl ?_))
  refine wl_u rfl (ow_y (yh_assign rfl rfl) rfl rfl (kk_wl ?_))
  refine wl_nil ?_
  refine ex_seq ?_
  refine cw_seq ?_
  refine cw_region ?_
  refine wl_u rfl (ow_y (yh_move rfl rfl) rfl rfl (kk_wl ?_))
  obtain ⟨x9, hx9, h⟩ := bd h
  refine wl_u rfl (ow_cM1 0 rfl hb54 rfl rfl (fun w hw => c_spec_l92Timers N _ _ _ hx9 w (hw.at (i := 0) rfl) (Lay.atR (i := 0) hf7 rfl hw)) rfl rfl (fun a9 c9 F9 => kk_wl ?_))
  refine wl_u rfl (ow_y (yh_assign rfl rfl) rfl rfl (kk_wl ?_))
  refine wl_nil ?_
  refine ex_seq ?_
  obtain ⟨e104, he104, hk104⟩ := bd h
  clear h
  refine cw_cut (σ := Nat × Unit) (fun s => e104 = Ex.brk s.1) (fun s => [(4, .pointer (some ⟨g7, 0, none⟩)), (5, .slice a9 x9.1.length c9)]) (fun s => [blkC g7 116 [.slice a_code ((code.take 2000).length) c_code, .int .i64 ((s.1 : Nat) : Int)], owC timersL F9 [.slice a9 x9.1.length c9] x9.1]) (fun s hI => ?_) (fun KL hn104 => ?_)
  · skip
    obtain ⟨j104, _⟩ := s
    simp only at hI ⊢
    subst hI
    have h := go_brk hk104
    refine cw_seq ?_
    refine cw_region ?_
    refine wl_u rfl (ow_y (yh_move rfl rfl) rfl rfl (kk_wl ?_))
    refine wl_u rfl (ow_y (yh_move rfl rfl) rfl rfl (kk_wl ?_))
    obtain ⟨x29, hx29, h⟩ := bd h
    have mp29 := pick_lt hx29 (by decide)
    refine wl_u rfl (ow_cM0 0 rfl hb55 rfl rfl (fun w hw => c_spec_l6Rd_pick N _ _ _ _ hx29 w (hw.at (i := 0) rfl) (Lay.atR (i := 0) hf7 rfl hw)) rfl rfl (kk_wl ?_))
    refine wl_u rfl (ow_y (yh_move rfl rfl) rfl rfl (kk_wl ?_))
    obtain ⟨x31, hx31, h⟩ := bd h
    have mp31 := pick_lt hx31 (by decide)
    refine wl_u rfl (ow_cM0 0 rfl hb55 rfl rfl (fun w hw => c_spec_l6Rd_pick N _ _ _ _ hx31 w (hw.at (i := 0) rfl) (Lay.atR (i := 0) hf7 rfl hw)) rfl rfl (kk_wl ?_))
    refine wl_u rfl (ow_y (yh_quoT rfl rfl rfl (by decide)) rfl rfl (kk_wl ?_))
    refine wl_u rfl (ow_y (yh_arW rfl rfl rfl rfl) rfl rfl (kk_wl ?_))
    refine wl_u rfl (ow_y (yh_arW rfl rfl rfl rfl) rfl rfl (kk_wl ?_))
    refine wl_u rfl (ow_y (yh_assign rfl rfl) rfl rfl (kk_wl ?_))
    refine wl_u rfl (ow_y (yh_assign rfl rfl) rfl rfl (kk_wl ?_))
    refine wl_nil ?_
    refine ex_seq ?_
    refine cw_ret ?_
    obtain rfl := Option.some.inj h
    exact ex_r2 Tb rfl (.tmp rfl) (.tmp rfl) (fun wq hq => ⟨_, rfl, hq.ext, ⟨a9, c9, F9, rfl, NewC.sel [1] hq rfl⟩⟩)
  · skip
    have h := he104
    obtain ⟨j105, he105, hk105⟩ := bd h
    clear h
    refine cw_cut (σ := Unit) (fun s => True) (fun s => [(4, .pointer (some ⟨g7, 0, none⟩)), (5, .slice a9 x9.1.length c9), (17, .bool j105.2)]) (fun s => [blkC g7 116 [.slice a_code ((code.take 2000).length) c_code, .int .i64 ((j105.1 : Nat) : Int)], owC timersL F9 [.slice a9 x9.1.length c9] x9.1]) (fun s hI => ?_) (fun KL hn105 => ?_)
    · skip
      have h := hk105
      refine cw_split rfl (fun c1 => ?_) (fun c1 => ?_)
      · skip
        replace h := bt c1 h
        refine cw_seq ?_
        refine cw_dr [0, 1, 2, 3, 4, 6, 7, 8, 9, 10] [] [owC timersL F9 [.slice a9 x9.1.length c9] x9.1] (by kernel_rfl) ?_
        refine wd_take (i := 0) [1] rfl rfl rfl rfl rfl (by kernel_rfl) rfl (fun _ _ _ _ h => h) (yh_move rfl rfl) ?_
        refine wd_take (i := 1) [1] rfl rfl rfl rfl rfl (by kernel_rfl) rfl (fun _ _ _ _ h => h) (yh_move rfl rfl) ?_
        refine wd_take (i := 2) [1] rfl rfl rfl rfl rfl (by kernel_rfl) rfl (fun _ _ _ _ h => h) (yh_move rfl rfl) ?_
        refine wd_take (i := 3) [1] rfl rfl rfl rfl rfl (by kernel_rfl) rfl (fun _ _ _ _ h => h) (yh_move rfl rfl) ?_
        refine wd_know (x9.1.length ≤ 9223372036854775807) (fun w hw => own_max 1 rfl hw) (fun mo22 => ?_)
        refine wd_take (i := 4) [1] rfl rfl rfl rfl rfl (by kernel_rfl) rfl (fun _ _ _ _ h => h) (yh_lenS Tb rfl rfl rfl rfl) ?_
        obtain ⟨x23, hx23, h⟩ := bd h
        refine wd_one 5 rfl rfl (by kernel_rfl) (ow_cM0 0 rfl hb55 rfl rfl (fun w hw => c_spec_l6Rd_pick N _ _ _ _ hx23 w (hw.at (i := 0) rfl) (Lay.atR (i := 0) hf7 rfl hw)) rfl rfl (kk_wd [1] rfl ?_))
        obtain ⟨y24, zy24, h⟩ := bd h
        obtain ⟨iy24, hy24⟩ := geti_some zy24
        refine wd_ex (fun g => a9 = some ⟨g, 0, none⟩) (fun w hw => own_addrK 1 rfl hy24 hw) (fun g24 hg24 => ?_)
        subst hg24
        refine wd_take (i := 6) [1] rfl rfl rfl rfl rfl (by kernel_rfl) rfl (fun _ _ _ _ h => h) (yh_idx Tb (k := x23.1.toNat) rfl rfl rfl iy24 (get_lt hy24) rfl rfl) ?_
        refine wd_take (i := 7) [1] rfl rfl rfl rfl rfl (by kernel_rfl) rfl (fun _ _ _ _ h => h) (yh_field Tb rfl rfl rfl) ?_
        refine wd_take (i := 8) [1] rfl rfl rfl rfl rfl (by kernel_rfl) rfl (fun _ _ _ _ h => h) (yh_loadOF Tb 0 0 rfl rfl rfl rfl rfl hy24 rfl) ?_
        refine wd_take (i := 9) [1] rfl rfl rfl rfl rfl (by kernel_rfl) rfl (fun _ _ _ _ h => h) (yh_assign rfl rfl) ?_
        refine wd_take (i := 10) [1] rfl rfl rfl rfl rfl (by kernel_rfl) rfl (fun _ _ _ _ h => h) (yh_assign rfl rfl) ?_
        refine wd_done (by kernel_rfl) ?_
        refine ex_seq ?_
        refine cw_ret ?_
        refine ex_then_ret ?_
        obtain rfl := Option.some.inj h
        obtain rfl := go_ret hk104
        exact ex_r2 Tb rfl (.tmp rfl) (.tmp rfl) (fun wq hq => ⟨_, rfl, hq.ext, ⟨(some ⟨g24, 0, none⟩), c9, F9, rfl, NewC.sel [1] hq rfl⟩⟩)
      · skip
        replace h := bf c1 h
        refine cw_skip ?_
        obtain rfl := Option.some.inj h
        exact ex_next [0, 1] (hn104 (j105.1, ()) rfl) ⟨rfl, rfl, trivial⟩ rfl
    · skip
      have h := he105
      refine cw_region ?_
      refine wl_u rfl (ow_y (yh_move rfl rfl) rfl rfl (kk_wl ?_))
      refine wl_know (x9.1.length ≤ 9223372036854775807) (fun w hw => own_max 0 rfl hw) (fun mo11 => ?_)
      refine wl_u rfl (ow_y (yh_lenS Tb rfl rfl rfl rfl) rfl rfl (kk_wl ?_))
      refine wl_u rfl (ow_y (yh_cmpI rfl rfl rfl rfl) rfl rfl (kk_wl ?_))
      refine wl_u rfl (ow_y (yh_move rfl rfl) rfl rfl (kk_wl ?_))
      refine wl_s rfl rfl (fun c2 => ?_) (fun c2 => ?_)
      · skip
        replace h := bt c2 h
        have q1 := ltb_true.1 c2
        refine wl_g rfl rfl (ow_y (yh_move rfl rfl) rfl rfl (kk_wl ?_))
        obtain ⟨x15, hx15, h⟩ := bd h
        have mp15 := pick_lt hx15 (by decide)
        refine wl_g rfl rfl (ow_cM0 1 rfl hb55 rfl rfl (fun w hw => c_spec_l6Rd_pick N _ _ _ _ hx15 w (hw.at (i := 1) rfl) (Lay.atR (i := 1) hf7 rfl hw)) rfl rfl (kk_wl ?_))
        refine wl_g rfl rfl (ow_y (yh_cmpI rfl rfl rfl rfl) rfl rfl (kk_wl ?_))
        refine wl_u rfl (ow_y (yh_pickT rfl rfl rfl) rfl rfl (kk_wl ?_))
        refine wl_nil ?_
        obtain rfl := Option.some.inj h
        exact ex_next [0, 1] (hn105 () trivial) ⟨rfl, rfl, rfl, trivial⟩ rfl
      · skip
        replace h := bf c2 h
        have q2 := ltb_false.1 c2
        refine wl_n rfl rfl rfl rfl ?_
        refine wl_n rfl rfl rfl rfl ?_
        refine wl_n rfl rfl rfl rfl ?_
        refine wl_u rfl (ow_y (yh_pickF rfl rfl rfl) rfl rfl (kk_wl ?_))
        refine wl_nil ?_
        obtain rfl := Option.some.inj h
        exact ex_next [1, 0] (hn105 () trivial) ⟨rfl, rfl, rfl, trivial⟩ rfl

def m_impl_TimersDue_L10 (N : Nat) (list_ : List Timer) (now : Int) : Nat → (List Str) → (List Timer) → Nat → Option (Ex (List Str × List Timer × Nat) (List Str × List Timer × Bool))
  | 0, _, _, _ => none
  | n + 1, s7, s8, s21 => (bif ltb ((s21 : Nat) : Int) ((list_.length : Nat) : Int) then (list_[s21]?).bind fun y23 => (bif leb y23.at_ now then (appd s7 ([y23.name] : List Str)).bind fun l33 => m_impl_TimersDue_L10 N list_ now n (s7 ++ ([y23.name] : List Str)) s8 (s21 + 1)
 else (appd s8 ([y23] : List Timer)).bind fun l37 => m_impl_TimersDue_L10 N list_ now n s7 (s8 ++ ([y23] : List Timer)) (s21 + 1))
 else some (Ex.brk (s7, s8, s21)))

def m_impl_TimersDue (N : Nat) (list_ : List Timer) (now : Int) : Option (List Str × List Timer × Bool) := (m_impl_TimersValid N list_).bind fun x12 => (bif !x12 then some (([] : List Str), ([] : List Timer), false)
 else (m_impl_isTime N now).bind fun x16 => (bif !x16 then some (([] : List Str), ([] : List Timer), false)
 else (m_impl_TimersDue_L10 N list_ now N ([] : List Str) ([] : List Timer) 0).bind fun e10 => e10.go (fun r => r) fun b10 => some (b10.1, b10.2.1, true)))

set_option maxHeartbeats 4000000 in
theorem c_impl_TimersDue (N : Nat) (list_ : List Timer) (now : Int) (res : List Str × List Timer × Bool) (h : m_impl_TimersDue N list_ now = some res) (w : World) {a_list_ : Option Addr} {c_list_ : Nat} (h_list_ : timersL.rd w [] [.slice a_list_ list_.length c_list_] list_) : Ret Try.prog 21 [.slice a_list_ list_.length c_list_, .int .i64 now] w [] fun v w' => ∃ a1 c1 F1 a2 c2 F2, v = .tuple #[.slice a1 res.1.length c1, .slice a2 res.2.1.length c2, .bool res.2.2] ∧ NewC w w' [owC strsL F1 [.slice a1 res.1.length c1] res.1, owC timersL F2 [.slice a2 res.2.1.length c2] res.2.1] := by
  have mh_list_ := rd_max h_list_
  unfold m_impl_TimersDue at h
  refine ret_enter Try.func21 rfl Try.ntmps21 rfl (Hp.refl w _) ?_
  refine cw_seq ?_
  refine cw_region ?_
  refine wl_u rfl (ow_y (yh_assign rfl rfl) rfl rfl (kk_wl ?_))
  refine wl_u rfl (ow_y (yh_assign rfl rfl) rfl rfl (kk_wl ?_))
  refine wl_u rfl (ow_y (yh_assign rfl rfl) rfl rfl (kk_wl ?_))
  refine wl_nil ?_
  refine ex_seq ?_
  refine cw_seq ?_
  refine cw_seq ?_
  refine cw_region ?_
  refine wl_u rfl (ow_y (yh_move rfl rfl) rfl rfl (kk_wl ?_))
  obtain ⟨x12, hx12, h⟩ := bd h
  refine wl_u rfl (ow_cV rfl hb15 rfl (fun w hw => c_impl_TimersValid N _ _ hx12 w (Lay.at_ h_list_ hw)) rfl rfl (kk_wl ?_))
  refine wl_u rfl (ow_y (yh_not rfl rfl) rfl rfl (kk_wl ?_))
  refine wl_u rfl (ow_y (yh_move rfl rfl) rfl rfl (kk_wl ?_))
  refine wl_s rfl rfl (fun c1 => ?_) (fun c1 => ?_)
  · skip
    replace h := bt c1 h
    refine wl_n rfl rfl rfl rfl ?_
    refine wl_n rfl rfl rfl rfl ?_
    refine wl_n rfl rfl rfl rfl ?_
    refine wl_u rfl (ow_y (yh_pickT rfl rfl rfl) rfl rfl (kk_wl ?_))
    refine wl_nil ?_
    refine ex_seq ?_
    refine cw_true rfl ?_
    refine cw_seq ?_
    refine cw_region ?_
    refine wl_u rfl (ow_y (yh_assign rfl rfl) rfl rfl (kk_wl ?_))
    refine wl_u rfl (ow_y (yh_assign rfl rfl) rfl rfl (kk_wl ?_))
    refine wl_u rfl (ow_y (yh_assign rfl rfl) rfl rfl (kk_wl ?_))
    refine wl_nil ?_
    refine ex_seq ?_
    refine cw_ret ?_
    refine ex_then_ret ?_
    refine ex_nilS strsL rfl ?_
    refine ex_nilS timersL rfl ?_
    obtain rfl := Option.some.inj h
    exact ex_r3 Tb rfl (.tmp rfl) (.tmp rfl) (.tmp rfl) (fun wq hq => ⟨_, rfl, hq.ext, ⟨none, 0, [], none, 0, [], rfl, NewC.sel [1, 0] hq rfl⟩⟩)
  · skip
    replace h := bf c1 h
    refine wl_g rfl rfl (ow_y (yh_move rfl rfl) rfl rfl (kk_wl ?_))
    obtain ⟨x16, hx16, h⟩ := bd h
    refine wl_g rfl rfl (ow_cV rfl hb65 rfl (fun w hw => c_impl_isTime N _ _ hx16 w) rfl rfl (kk_wl ?_))
    refine wl_g rfl rfl (ow_y (yh_not rfl rfl) rfl rfl (kk_wl ?_))
    refine wl_u rfl (ow_y (yh_pickF rfl rfl rfl) rfl rfl (kk_wl ?_))
    refine wl_nil ?_
    refine ex_seq ?_
    refine cw_split rfl (fun c2 => ?_) (fun c2 => ?_)
    · skip
      replace h := bt c2 h
      refine cw_seq ?_
      refine cw_region ?_
      refine wl_u rfl (ow_y (yh_assign rfl rfl) rfl rfl (kk_wl ?_))
      refine wl_u rfl (ow_y (yh_assign rfl rfl) rfl rfl (kk_wl ?_))
      refine wl_u rfl (ow_y (yh_assign rfl rfl) rfl rfl (kk_wl ?_))
      refine wl_nil ?_
      refine ex_seq ?_
      refine cw_ret ?_
      refine ex_then_ret ?_
      refine ex_nilS strsL rfl ?_
      refine ex_nilS timersL rfl ?_
      obtain rfl := Option.some.inj h
      exact ex_r3 Tb rfl (.tmp rfl) (.tmp rfl) (.tmp rfl) (fun wq hq => ⟨_, rfl, hq.ext, ⟨none, 0, [], none, 0, [], rfl, NewC.sel [1, 0] hq rfl⟩⟩)
    · skip
      replace h := bf c2 h
      refine cw_skip ?_
      refine ex_seq ?_
      refine cw_seq ?_
      refine cw_region ?_
      refine wl_u rfl (ow_y (yh_assign rfl rfl) rfl rfl (kk_wl ?_))
      refine wl_nil ?_
      refine ex_seq ?_
      refine cw_seq ?_
      refine cw_region ?_
      refine wl_u rfl (ow_y (yh_assign rfl rfl) rfl rfl (kk_wl ?_))
      refine wl_nil ?_
      refine ex_seq ?_
      refine cw_seq ?_
      refine cw_seq ?_
      refine cw_region ?_
      refine wl_u rfl (ow_y (yh_move rfl rfl) rfl rfl (kk_wl ?_))
      refine wl_u rfl (ow_y (yh_lenS Tb rfl rfl rfl rfl) rfl rfl (kk_wl ?_))
      refine wl_u rfl (ow_y (yh_move rfl rfl) rfl rfl (kk_wl ?_))
      refine wl_nil ?_
      refine ex_seq ?_
      refine cw_block ?_
      obtain ⟨e10, he10, hk10⟩ := bd h
      clear h
      refine cw_nilS strsL rfl ?_
      refine cw_nilS timersL rfl ?_
      refine cw_loopG (σ := Nat × (List Str) × (List Timer) × Nat × (Option Addr) × Nat × (List Nat) × (Option Addr) × Nat × (List Nat)) (fun s => m_impl_TimersDue_L10 N list_ now s.1 s.2.1 s.2.2.1 s.2.2.2.1 = some e10) (fun s => [(1, .int .i64 now), (7, .slice s.2.2.2.2.1 s.2.1.length s.2.2.2.2.2.1), (8, .slice s.2.2.2.2.2.2.2.1 s.2.2.1.length s.2.2.2.2.2.2.2.2.1), (19, .slice a_list_ list_.length c_list_), (20, .int .i64 ((list_.length : Nat) : Int)), (21, .int .i64 ((s.2.2.2.1 : Nat) : Int))]) (fun s => [owC strsL s.2.2.2.2.2.2.1 [.slice s.2.2.2.2.1 s.2.1.length s.2.2.2.2.2.1] s.2.1, owC timersL s.2.2.2.2.2.2.2.2.2 [.slice s.2.2.2.2.2.2.2.1 s.2.2.1.length s.2.2.2.2.2.2.2.2.1] s.2.2.1]) (fun s => s.1) (N, ([] : List Str), ([] : List Timer), 0, none, 0, [], none, 0, []) [1, 0] he10 ⟨rfl, rfl, rfl, rfl, rfl, rfl, trivial⟩ rfl (fun KL s he10 hn10 => ?_)
      obtain ⟨n10, s7, s8, s21, as7, cs7, Fs7, as8, cs8, Fs8⟩ := s
      simp only at he10 hn10 ⊢
      rcases n10 with _ | n10
      · exact nosome he10
      have h := he10; rw [m_impl_TimersDue_L10] at h
      refine cw_seq ?_
      refine cw_region ?_
      refine wl_u rfl (ow_y (yh_cmpI rfl rfl rfl rfl) rfl rfl (kk_wl ?_))
      refine wl_nil ?_
      refine ex_seq ?_
      refine cw_seq ?_
      refine cw_split rfl (fun c3 => ?_) (fun c3 => ?_)
      · skip
        replace h := bt c3 h
        have q1 := ltb_true.1 c3
        refine cw_skip ?_
        refine ex_seq ?_
        refine cw_seq ?_
        refine cw_block ?_
        refine cw_seq ?_
        refine cw_region ?_
        obtain ⟨y23, hy23, h⟩ := bd h
        obtain ⟨b23, o23, ha23⟩ := sl_addr h_list_ hy23
        subst ha23
        have hc23 := get_timer h_list_ hy23
        refine wl_u rfl (ow_y (yh_idx Tb (k := s21) rfl rfl rfl rfl (get_lt hy23) rfl rfl) rfl rfl (kk_wl ?_))
        refine wl_u rfl (ow_y (yh_loadAN Tb rfl rfl rfl rfl hc23 rfl) rfl rfl (kk_wl ?_))
        refine wl_u rfl (ow_allocA Tb rfl rfl rfl rfl (fun g10 => kk_wl ?_))
        refine wl_u rfl (ow_storeA Tb (k := 0) rfl rfl rfl rfl rfl rfl rfl rfl rfl (kk_wl ?_))
        refine wl_nil ?_
        refine ex_seq ?_
        refine cw_seq ?_
        refine cw_region ?_
        refine wl_u rfl (ow_y (yh_field Tb rfl rfl rfl) rfl rfl (kk_wl ?_))
        refine wl_u rfl (ow_y (yh_loadB Tb (k := 0) rfl rfl rfl rfl rfl) rfl rfl (kk_wl ?_))
        refine wl_u rfl (ow_y (yh_move rfl rfl) rfl rfl (kk_wl ?_))
        refine wl_u rfl (ow_y (yh_cmpI rfl rfl rfl rfl) rfl rfl (kk_wl ?_))
        refine wl_nil ?_
        refine ex_seq ?_
        refine cw_split rfl (fun c4 => ?_) (fun c4 => ?_)
        · skip
          replace h := bt c4 h
          have q2 := leb_true.1 c4
          refine cw_region ?_
          refine wl_u rfl (ow_y (yh_move rfl rfl) rfl rfl (kk_wl ?_))
          refine wl_u rfl (ow_y (yh_field Tb rfl rfl rfl) rfl rfl (kk_wl ?_))
          refine wl_u rfl (ow_y (yh_loadB Tb (k := 0) rfl rfl rfl rfl rfl) rfl rfl (kk_wl ?_))
          refine wl_u rfl (ow_lit1 Tb rfl rfl rfl rfl rfl rfl rfl rfl rfl rfl (fun g32 => kk_chg (c' := owC strsL [g32] [.slice (some ⟨g32, 0, none⟩) 1 1] ([y23.name] : List Str)) 0 rfl (fun w hA => own_strsL ([y23.name] : List Str) hA rfl (by simp [maxLen])) rfl (kk_wl ?_)))
          obtain ⟨hll33, h⟩ := bd_appd h
          refine wl_u rfl (ow_appP Tb (i := 2) rfl rfl rfl rfl rfl (fun w hw => rdo (A := strsL) 0 rfl hw) rfl rfl rfl rfl hll33 (by decide) rfl rfl (fun a33 c33 F33 => kk_wl ?_))
          refine wl_u rfl (ow_y (yh_assign rfl rfl) rfl rfl (kk_wl ?_))
          refine wl_nil ?_
          refine ex_block_normal ?_
          refine ex_seq ?_
          refine cw_region ?_
          refine wl_u rfl (ow_y (yh_arI rfl rfl rfl rfl (by omega)) rfl rfl (kk_wl ?_))
          refine wl_u rfl (ow_y (yh_move rfl rfl) rfl rfl (kk_wl ?_))
          refine wl_nil ?_
          exact ex_next [0, 3] (hn10 (n10, (s7 ++ ([y23.name] : List Str)), s8, s21 + 1, a33, c33, F33, as8, cs8, Fs8) (Nat.lt_succ_self _) h) ⟨rfl, rfl, rfl, rfl, rfl, rfl, trivial⟩ rfl
        · skip
          replace h := bf c4 h
          have q3 := leb_false.1 c4
          refine cw_region ?_
          refine wl_u rfl (ow_y (yh_move rfl rfl) rfl rfl (kk_wl ?_))
          refine wl_u rfl (ow_y (yh_loadBA Tb (k := 0) rfl rfl rfl rfl rfl rfl) rfl rfl (kk_wl ?_))
          refine wl_u rfl (ow_litA Tb rfl rfl rfl rfl rfl rfl (by decide) rfl rfl (fun g36 => kk_chg (c' := owC timersL [g36] [.slice (some ⟨g36, 0, none⟩) 1 1] ([y23] : List Timer)) 0 rfl (fun w hA => own_timersL ([y23] : List Timer) hA rfl (by simp [maxLen])) rfl (kk_wl ?_)))
          obtain ⟨hll37, h⟩ := bd_appd h
          refine wl_u rfl (ow_appP Tb (i := 3) rfl rfl rfl rfl rfl (fun w hw => rdo (A := timersL) 0 rfl hw) rfl rfl rfl rfl hll37 (by decide) rfl rfl (fun a37 c37 F37 => kk_wl ?_))
          refine wl_u rfl (ow_y (yh_assign rfl rfl) rfl rfl (kk_wl ?_))
          refine wl_nil ?_
          refine ex_block_normal ?_
          refine ex_seq ?_
          refine cw_region ?_
          refine wl_u rfl (ow_y (yh_arI rfl rfl rfl rfl (by omega)) rfl rfl (kk_wl ?_))
          refine wl_u rfl (ow_y (yh_move rfl rfl) rfl rfl (kk_wl ?_))
          refine wl_nil ?_
          exact ex_next [3, 0] (hn10 (n10, s7, (s8 ++ ([y23] : List Timer)), s21 + 1, as7, cs7, Fs7, a37, c37, F37) (Nat.lt_succ_self _) h) ⟨rfl, rfl, rfl, rfl, rfl, rfl, trivial⟩ rfl
      · skip
        replace h := bf c3 h
        have q4 := ltb_false.1 c3
        refine cw_exit ?_
        refine ex_then_exit ?_
        refine ex_then_exit ?_
        obtain rfl := Option.some.inj h
        have h := go_brk hk10
        refine ex_block_exit ?_
        refine ex_seq ?_
        refine cw_seq ?_
        refine cw_region ?_
        refine wl_u rfl (ow_y (yh_move rfl rfl) rfl rfl (kk_wl ?_))
        refine wl_u rfl (ow_y (yh_move rfl rfl) rfl rfl (kk_wl ?_))
        refine wl_u rfl (ow_y (yh_assign rfl rfl) rfl rfl (kk_wl ?_))
        refine wl_u rfl (ow_y (yh_assign rfl rfl) rfl rfl (kk_wl ?_))
        refine wl_u rfl (ow_y (yh_assign rfl rfl) rfl rfl (kk_wl ?_))
        refine wl_nil ?_
        refine ex_seq ?_
        refine cw_ret ?_
        obtain rfl := Option.some.inj h
        exact ex_r3 Tb rfl (.tmp rfl) (.tmp rfl) (.tmp rfl) (fun wq hq => ⟨_, rfl, hq.ext, ⟨as7, cs7, Fs7, as8, cs8, Fs8, rfl, NewC.sel [0, 1] hq rfl⟩⟩)

def m_spec_TimersDue_L10 (N : Nat) (list_ : List Timer) (now : Int) : Nat → (List Str) → (List Timer) → Nat → Option (Ex (List Str × List Timer × Nat) (List Str × List Timer × Bool))
  | 0, _, _, _ => none
  | n + 1, s7, s8, s9 => (bif ltb ((s9 : Nat) : Int) ((list_.length : Nat) : Int) then (list_[s9]?).bind fun y30 => (bif leb y30.at_ now then (appd s7 ([y30.name] : List Str)).bind fun l42 => m_spec_TimersDue_L10 N list_ now n (s7 ++ ([y30.name] : List Str)) s8 (s9 + 1)
 else (appd s8 ([y30] : List Timer)).bind fun l49 => m_spec_TimersDue_L10 N list_ now n s7 (s8 ++ ([y30] : List Timer)) (s9 + 1))
 else some (Ex.brk (s7, s8, s9)))

def m_spec_TimersDue (N : Nat) (list_ : List Timer) (now : Int) : Option (List Str × List Timer × Bool) := (m_spec_TimersValid N list_).bind fun x13 => (bif !x13 then some (([] : List Str), ([] : List Timer), false)
 else (m_spec_l6In N now 0 9999).bind fun x17 => (bif !x17 then some (([] : List Str), ([] : List Timer), false)
 else (m_spec_TimersDue_L10 N list_ now N ([] : List Str) ([] : List Timer) 0).bind fun e10 => e10.go (fun r => r) fun b10 => some (b10.1, b10.2.1, true)))

set_option maxHeartbeats 4000000 in
theorem c_spec_TimersDue (N : Nat) (list_ : List Timer) (now : Int) (res : List Str × List Timer × Bool) (h : m_spec_TimersDue N list_ now = some res) (w : World) {a_list_ : Option Addr} {c_list_ : Nat} (h_list_ : timersL.rd w [] [.slice a_list_ list_.length c_list_] list_) : Ret Try.prog 22 [.slice a_list_ list_.length c_list_, .int .i64 now] w [] fun v w' => ∃ a1 c1 F1 a2 c2 F2, v = .tuple #[.slice a1 res.1.length c1, .slice a2 res.2.1.length c2, .bool res.2.2] ∧ NewC w w' [owC strsL F1 [.slice a1 res.1.length c1] res.1, owC timersL F2 [.slice a2 res.2.1.length c2] res.2.1] := by
  have mh_list_ := rd_max h_list_
  unfold m_spec_TimersDue at h
  refine ret_enter Try.func22 rfl Try.ntmps22 rfl (Hp.refl w _) ?_
  refine cw_seq ?_
  refine cw_region ?_
  refine wl_u rfl (ow_y (yh_assign rfl rfl) rfl rfl (kk_wl ?_))
  refine wl_u rfl (ow_y (yh_assign rfl rfl) rfl rfl (kk_wl ?_))
  refine wl_u rfl (ow_y (yh_assign rfl rfl) rfl rfl (kk_wl ?_))
  refine wl_nil ?_
  refine ex_seq ?_
  refine cw_seq ?_
  refine cw_region ?_
  refine wl_u rfl (ow_lit0 Tb rfl rfl rfl rfl rfl rfl (fun g10 => kk_chg (c' := owC strsL [g10] [.slice (some ⟨g10, 0, none⟩) 0 0] ([] : List Str)) 0 rfl (fun w hA => own_strsL ([] : List Str) hA rfl (by simp [maxLen])) rfl (kk_wl ?_)))
  refine wl_u rfl (ow_y (yh_assign rfl rfl) rfl rfl (kk_wl ?_))
  refine wl_nil ?_
  refine ex_seq ?_
  refine cw_seq ?_
  refine cw_region ?_
  refine wl_u rfl (ow_lit0 Tb rfl rfl rfl rfl rfl rfl (fun g11 => kk_chg (c' := owC timersL [g11] [.slice (some ⟨g11, 0, none⟩) 0 0] ([] : List Timer)) 0 rfl (fun w hA => own_timersL ([] : List Timer) hA rfl (by simp [maxLen])) rfl (kk_wl ?_)))
  refine wl_u rfl (ow_y (yh_assign rfl rfl) rfl rfl (kk_wl ?_))
  refine wl_nil ?_
  refine ex_seq ?_
  refine cw_seq ?_
  refine cw_seq ?_
  refine cw_region ?_
  refine wl_u rfl (ow_y (yh_move rfl rfl) rfl rfl (kk_wl ?_))
  obtain ⟨x13, hx13, h⟩ := bd h
  refine wl_u rfl (ow_cV rfl hb16 rfl (fun w hw => c_spec_TimersValid N _ _ hx13 w (Lay.at_ h_list_ hw)) rfl rfl (kk_wl ?_))
  refine wl_u rfl (ow_y (yh_not rfl rfl) rfl rfl (kk_wl ?_))
  refine wl_u rfl (ow_y (yh_move rfl rfl) rfl rfl (kk_wl ?_))
  refine wl_s rfl rfl (fun c1 => ?_) (fun c1 => ?_)
  · skip
    replace h := bt c1 h
    refine wl_n rfl rfl rfl rfl ?_
    refine wl_n rfl rfl rfl rfl ?_
    refine wl_n rfl rfl rfl rfl ?_
    refine wl_u rfl (ow_y (yh_pickT rfl rfl rfl) rfl rfl (kk_wl ?_))
    refine wl_nil ?_
    refine ex_seq ?_
    refine cw_true rfl ?_
    refine cw_seq ?_
    refine cw_region ?_
    refine wl_u rfl (ow_y (yh_move rfl rfl) rfl rfl (kk_wl ?_))
    refine wl_u rfl (ow_y (yh_move rfl rfl) rfl rfl (kk_wl ?_))
    refine wl_u rfl (ow_y (yh_assign rfl rfl) rfl rfl (kk_wl ?_))
    refine wl_u rfl (ow_y (yh_assign rfl rfl) rfl rfl (kk_wl ?_))
    refine wl_u rfl (ow_y (yh_assign rfl rfl) rfl rfl (kk_wl ?_))
    refine wl_nil ?_
    refine ex_seq ?_
    refine cw_ret ?_
    refine ex_then_ret ?_
    obtain rfl := Option.some.inj h
    exact ex_r3 Tb rfl (.tmp rfl) (.tmp rfl) (.tmp rfl) (fun wq hq => ⟨_, rfl, hq.ext, ⟨(some ⟨g10, 0, none⟩), 0, [g10], (some ⟨g11, 0, none⟩), 0, [g11], rfl, NewC.sel [1, 0] hq rfl⟩⟩)
  · skip
    replace h := bf c1 h
    refine wl_g rfl rfl (ow_y (yh_move rfl rfl) rfl rfl (kk_wl ?_))
    obtain ⟨x17, hx17, h⟩ := bd h
    refine wl_g rfl rfl (ow_cV rfl hb58 rfl (fun w hw => c_spec_l6In N _ _ _ _ hx17 w) rfl rfl (kk_wl ?_))
    refine wl_g rfl rfl (ow_y (yh_not rfl rfl) rfl rfl (kk_wl ?_))
    refine wl_u rfl (ow_y (yh_pickF rfl rfl rfl) rfl rfl (kk_wl ?_))
    refine wl_nil ?_
    refine ex_seq ?_
    refine cw_split rfl (fun c2 => ?_) (fun c2 => ?_)
    · skip
      replace h := bt c2 h
      refine cw_seq ?_
      refine cw_region ?_
      refine wl_u rfl (ow_y (yh_move rfl rfl) rfl rfl (kk_wl ?_))
      refine wl_u rfl (ow_y (yh_move rfl rfl) rfl rfl (kk_wl ?_))
      refine wl_u rfl (ow_y (yh_assign rfl rfl) rfl rfl (kk_wl ?_))
      refine wl_u rfl (ow_y (yh_assign rfl rfl) rfl rfl (kk_wl ?_))
      refine wl_u rfl (ow_y (yh_assign rfl rfl) rfl rfl (kk_wl ?_))
      refine wl_nil ?_
      refine ex_seq ?_
      refine cw_ret ?_
      refine ex_then_ret ?_
      obtain rfl := Option.some.inj h
      exact ex_r3 Tb rfl (.tmp rfl) (.tmp rfl) (.tmp rfl) (fun wq hq => ⟨_, rfl, hq.ext, ⟨(some ⟨g10, 0, none⟩), 0, [g10], (some ⟨g11, 0, none⟩), 0, [g11], rfl, NewC.sel [1, 0] hq rfl⟩⟩)
    · skip
      replace h := bf c2 h
      refine cw_skip ?_
      refine ex_seq ?_
      refine cw_seq ?_
      refine cw_seq ?_
      refine cw_region ?_
      refine wl_u rfl (ow_y (yh_assign rfl rfl) rfl rfl (kk_wl ?_))
      refine wl_nil ?_
      refine ex_seq ?_
      refine cw_block ?_
      obtain ⟨e10, he10, hk10⟩ := bd h
      clear h
      refine cw_loopG (σ := Nat × (List Str) × (List Timer) × Nat × (Option Addr) × Nat × (List Nat) × (Option Addr) × Nat × (List Nat)) (fun s => m_spec_TimersDue_L10 N list_ now s.1 s.2.1 s.2.2.1 s.2.2.2.1 = some e10) (fun s => [(0, .slice a_list_ list_.length c_list_), (1, .int .i64 now), (7, .slice s.2.2.2.2.1 s.2.1.length s.2.2.2.2.2.1), (8, .slice s.2.2.2.2.2.2.2.1 s.2.2.1.length s.2.2.2.2.2.2.2.2.1), (9, .int .i64 ((s.2.2.2.1 : Nat) : Int))]) (fun s => [owC strsL s.2.2.2.2.2.2.1 [.slice s.2.2.2.2.1 s.2.1.length s.2.2.2.2.2.1] s.2.1, owC timersL s.2.2.2.2.2.2.2.2.2 [.slice s.2.2.2.2.2.2.2.1 s.2.2.1.length s.2.2.2.2.2.2.2.2.1] s.2.2.1]) (fun s => s.1) (N, ([] : List Str), ([] : List Timer), 0, (some ⟨g10, 0, none⟩), 0, [g10], (some ⟨g11, 0, none⟩), 0, [g11]) [1, 0] he10 ⟨rfl, rfl, rfl, rfl, rfl, trivial⟩ rfl (fun KL s he10 hn10 => ?_)
      obtain ⟨n10, s7, s8, s9, as7, cs7, Fs7, as8, cs8, Fs8⟩ := s
      simp only at he10 hn10 ⊢
      rcases n10 with _ | n10
      · exact nosome he10
      have h := he10; rw [m_spec_TimersDue_L10] at h
      refine cw_seq ?_
      refine cw_seq ?_
      refine cw_region ?_
      refine wl_u rfl (ow_y (yh_move rfl rfl) rfl rfl (kk_wl ?_))
      refine wl_u rfl (ow_y (yh_move rfl rfl) rfl rfl (kk_wl ?_))
      refine wl_u rfl (ow_y (yh_lenS Tb rfl rfl rfl rfl) rfl rfl (kk_wl ?_))
      refine wl_u rfl (ow_y (yh_cmpI rfl rfl rfl rfl) rfl rfl (kk_wl ?_))
      refine wl_nil ?_
      refine ex_seq ?_
      refine cw_split rfl (fun c3 => ?_) (fun c3 => ?_)
      · skip
        replace h := bt c3 h
        have q1 := ltb_true.1 c3
        refine cw_skip ?_
        refine ex_seq ?_
        refine cw_seq ?_
        refine cw_block ?_
        refine cw_seq ?_
        refine cw_region ?_
        refine wl_u rfl (ow_y (yh_move rfl rfl) rfl rfl (kk_wl ?_))
        refine wl_u rfl (ow_y (yh_move rfl rfl) rfl rfl (kk_wl ?_))
        obtain ⟨y30, hy30, h⟩ := bd h
        obtain ⟨b30, o30, ha30⟩ := sl_addr h_list_ hy30
        subst ha30
        have hc30 := get_timer h_list_ hy30
        refine wl_u rfl (ow_y (yh_idx Tb (k := s9) rfl rfl rfl rfl (get_lt hy30) rfl rfl) rfl rfl (kk_wl ?_))
        refine wl_u rfl (ow_y (yh_field Tb rfl rfl rfl) rfl rfl (kk_wl ?_))
        refine wl_u rfl (ow_y (yh_loadAF Tb (j := 0) rfl rfl rfl hc30 rfl) rfl rfl (kk_wl ?_))
        refine wl_u rfl (ow_y (yh_move rfl rfl) rfl rfl (kk_wl ?_))
        refine wl_u rfl (ow_y (yh_cmpI rfl rfl rfl rfl) rfl rfl (kk_wl ?_))
        refine wl_nil ?_
        refine ex_seq ?_
        refine cw_split rfl (fun c4 => ?_) (fun c4 => ?_)
        · skip
          replace h := bt c4 h
          have q2 := leb_true.1 c4
          refine cw_region ?_
          refine wl_u rfl (ow_y (yh_move rfl rfl) rfl rfl (kk_wl ?_))
          refine wl_u rfl (ow_y (yh_move rfl rfl) rfl rfl (kk_wl ?_))
          refine wl_u rfl (ow_y (yh_move rfl rfl) rfl rfl (kk_wl ?_))
          refine wl_u rfl (ow_y (yh_idx Tb (k := s9) rfl rfl rfl rfl (get_lt hy30) rfl rfl) rfl rfl (kk_wl ?_))
          refine wl_u rfl (ow_y (yh_field Tb rfl rfl rfl) rfl rfl (kk_wl ?_))
          refine wl_u rfl (ow_y (yh_loadAF Tb (j := 1) rfl rfl rfl hc30 rfl) rfl rfl (kk_wl ?_))
          refine wl_u rfl (ow_lit1 Tb rfl rfl rfl rfl rfl rfl rfl rfl rfl rfl (fun g41 => kk_chg (c' := owC strsL [g41] [.slice (some ⟨g41, 0, none⟩) 1 1] ([y30.name] : List Str)) 0 rfl (fun w hA => own_strsL ([y30.name] : List Str) hA rfl (by simp [maxLen])) rfl (kk_wl ?_)))
          obtain ⟨hll42, h⟩ := bd_appd h
          refine wl_u rfl (ow_appP Tb (i := 1) rfl rfl rfl rfl rfl (fun w hw => rdo (A := strsL) 0 rfl hw) rfl rfl rfl rfl hll42 (by decide) rfl rfl (fun a42 c42 F42 => kk_wl ?_))
          refine wl_u rfl (ow_y (yh_assign rfl rfl) rfl rfl (kk_wl ?_))
          refine wl_nil ?_
          refine ex_block_normal ?_
          refine ex_seq ?_
          refine cw_region ?_
          refine wl_u rfl (ow_y (yh_move rfl rfl) rfl rfl (kk_wl ?_))
          refine wl_u rfl (ow_y (yh_arI rfl rfl rfl rfl (by omega)) rfl rfl (kk_wl ?_))
          refine wl_u rfl (ow_y (yh_assign rfl rfl) rfl rfl (kk_wl ?_))
          refine wl_nil ?_
          exact ex_next [0, 2] (hn10 (n10, (s7 ++ ([y30.name] : List Str)), s8, s9 + 1, a42, c42, F42, as8, cs8, Fs8) (Nat.lt_succ_self _) h) ⟨rfl, rfl, rfl, rfl, rfl, trivial⟩ rfl
        · skip
          replace h := bf c4 h
          have q3 := leb_false.1 c4
          refine cw_region ?_
          refine wl_u rfl (ow_y (yh_move rfl rfl) rfl rfl (kk_wl ?_))
          refine wl_u rfl (ow_y (yh_move rfl rfl) rfl rfl (kk_wl ?_))
          refine wl_u rfl (ow_y (yh_move rfl rfl) rfl rfl (kk_wl ?_))
          refine wl_u rfl (ow_y (yh_idx Tb (k := s9) rfl rfl rfl rfl (get_lt hy30) rfl rfl) rfl rfl (kk_wl ?_))
          refine wl_u rfl (ow_y (yh_loadAN Tb rfl rfl rfl rfl hc30 rfl) rfl rfl (kk_wl ?_))
          refine wl_u rfl (ow_litA Tb rfl rfl rfl rfl rfl rfl (by decide) rfl rfl (fun g48 => kk_chg (c' := owC timersL [g48] [.slice (some ⟨g48, 0, none⟩) 1 1] ([y30] : List Timer)) 0 rfl (fun w hA => own_timersL ([y30] : List Timer) hA rfl (by simp [maxLen])) rfl (kk_wl ?_)))
          obtain ⟨hll49, h⟩ := bd_appd h
          refine wl_u rfl (ow_appP Tb (i := 2) rfl rfl rfl rfl rfl (fun w hw => rdo (A := timersL) 0 rfl hw) rfl rfl rfl rfl hll49 (by decide) rfl rfl (fun a49 c49 F49 => kk_wl ?_))
          refine wl_u rfl (ow_y (yh_assign rfl rfl) rfl rfl (kk_wl ?_))
          refine wl_nil ?_
          refine ex_block_normal ?_
          refine ex_seq ?_
          refine cw_region ?_
          refine wl_u rfl (ow_y (yh_move rfl rfl) rfl rfl (kk_wl ?_))
          refine wl_u rfl (ow_y (yh_arI rfl rfl rfl rfl (by omega)) rfl rfl (kk_wl ?_))
          refine wl_u rfl (ow_y (yh_assign rfl rfl) rfl rfl (kk_wl ?_))
          refine wl_nil ?_
          exact ex_next [2, 0] (hn10 (n10, s7, (s8 ++ ([y30] : List Timer)), s9 + 1, as7, cs7, Fs7, a49, c49, F49) (Nat.lt_succ_self _) h) ⟨rfl, rfl, rfl, rfl, rfl, trivial⟩ rfl
      · skip
        replace h := bf c3 h
        have q4 := ltb_false.1 c3
        refine cw_exit ?_
        refine ex_then_exit ?_
        refine ex_then_exit ?_
        obtain rfl := Option.some.inj h
        have h := go_brk hk10
        refine ex_block_exit ?_
        refine ex_seq ?_
        refine cw_seq ?_
        refine cw_region ?_
        refine wl_u rfl (ow_y (yh_move rfl rfl) rfl rfl (kk_wl ?_))
        refine wl_u rfl (ow_y (yh_move rfl rfl) rfl rfl (kk_wl ?_))
        refine wl_u rfl (ow_y (yh_assign rfl rfl) rfl rfl (kk_wl ?_))
        refine wl_u rfl (ow_y (yh_assign rfl rfl) rfl rfl (kk_wl ?_))
        refine wl_u rfl (ow_y (yh_assign rfl rfl) rfl rfl (kk_wl ?_))
        refine wl_nil ?_
        refine ex_seq ?_
        refine cw_ret ?_
        obtain rfl := Option.some.inj h
        exact ex_r3 Tb rfl (.tmp rfl) (.tmp rfl) (.tmp rfl) (fun wq hq => ⟨_, rfl, hq.ext, ⟨as7, cs7, Fs7, as8, cs8, Fs8, rfl, NewC.sel [0, 1] hq rfl⟩⟩)

def m_laws_sameTexts_L8 (N : Nat) (a : List Str) (b : List Str) : Nat → Nat → Option (Ex (Nat) (Bool))
  | 0, _ => none
  | n + 1, s5 => (bif ltb ((s5 : Nat) : Int) ((a.length : Nat) : Int) then (a[s5]?).bind fun y19 => (b[s5]?).bind fun y23 => (bif !(seq y19 y23) then some (Ex.ret false)
 else m_laws_sameTexts_L8 N a b n (s5 + 1))
 else some (Ex.brk (s5)))

def m_laws_sameTexts (N : Nat) (a : List Str) (b : List Str) : Option (Bool) := (bif !(eqb ((a.length : Nat) : Int) ((b.length : Nat) : Int)) then some false
 else (m_laws_sameTexts_L8 N a b N 0).bind fun e8 => e8.go (fun r => r) fun b8 => some true)

set_option maxHeartbeats 4000000 in
theorem c_laws_sameTexts (N : Nat) (a : List Str) (b : List Str) (res : Bool) (h : m_laws_sameTexts N a b = some res) (w : World) {a_a a_b : Option Addr} {c_a c_b : Nat} (h_a : strsL.rd w [] [.slice a_a a.length c_a] a) (h_b : strsL.rd w [] [.slice a_b b.length c_b] b) : Ret Try.prog 23 [.slice a_a a.length c_a, .slice a_b b.length c_b] w [] fun v w' => v = .bool res := by
  have mh_a := rd_max h_a
  have mh_b := rd_max h_b
  unfold m_laws_sameTexts at h
  refine ret_enter Try.func23 rfl Try.ntmps23 rfl (Hp.refl w _) ?_
  refine cw_seq ?_
  refine cw_region ?_
  refine wl_u rfl (ow_y (yh_assign rfl rfl) rfl rfl (kk_wl ?_))
  refine wl_nil ?_
  refine ex_seq ?_
  refine cw_seq ?_
  refine cw_seq ?_
  refine cw_region ?_
  refine wl_u rfl (ow_y (yh_move rfl rfl) rfl rfl (kk_wl ?_))
  refine wl_u rfl (ow_y (yh_lenS Tb rfl rfl rfl rfl) rfl rfl (kk_wl ?_))
  refine wl_u rfl (ow_y (yh_move rfl rfl) rfl rfl (kk_wl ?_))
  refine wl_u rfl (ow_y (yh_lenS Tb rfl rfl rfl rfl) rfl rfl (kk_wl ?_))
  refine wl_u rfl (ow_y (yh_cmpI rfl rfl rfl rfl) rfl rfl (kk_wl ?_))
  refine wl_nil ?_
  refine ex_seq ?_
  refine cw_split rfl (fun c1 => ?_) (fun c1 => ?_)
  · skip
    replace h := bt c1 h
    have q1 := eqb_false.1 (nt c1)
    refine cw_seq ?_
    refine cw_region ?_
    refine wl_u rfl (ow_y (yh_assign rfl rfl) rfl rfl (kk_wl ?_))
    refine wl_nil ?_
    refine ex_seq ?_
    refine cw_ret ?_
    refine ex_then_ret ?_
    obtain rfl := Option.some.inj h
    exact ex_r1 Tb rfl (.tmp rfl) (fun wq hq => ⟨_, rfl, hq.ext, rfl⟩)
  · skip
    replace h := bf c1 h
    have q2 := eqb_true.1 (nf c1)
    refine cw_skip ?_
    refine ex_seq ?_
    refine cw_seq ?_
    refine cw_seq ?_
    refine cw_region ?_
    refine wl_u rfl (ow_y (yh_assign rfl rfl) rfl rfl (kk_wl ?_))
    refine wl_nil ?_
    refine ex_seq ?_
    refine cw_block ?_
    obtain ⟨e8, he8, hk8⟩ := bd h
    clear h
    refine cw_loopG (σ := Nat × Nat) (fun s => m_laws_sameTexts_L8 N a b s.1 s.2 = some e8) (fun s => [(0, .slice a_a a.length c_a), (1, .slice a_b b.length c_b), (5, .int .i64 ((s.2 : Nat) : Int))]) (fun s => []) (fun s => s.1) (N, 0) [] he8 ⟨rfl, rfl, rfl, trivial⟩ rfl (fun KL s he8 hn8 => ?_)
    obtain ⟨n8, s5⟩ := s
    simp only at he8 hn8 ⊢
    rcases n8 with _ | n8
    · exact nosome he8
    have h := he8; rw [m_laws_sameTexts_L8] at h
    refine cw_seq ?_
    refine cw_seq ?_
    refine cw_region ?_
    refine wl_u rfl (ow_y (yh_move rfl rfl) rfl rfl (kk_wl ?_))
    refine wl_u rfl (ow_y (yh_move rfl rfl) rfl rfl (kk_wl ?_))
    refine wl_u rfl (ow_y (yh_lenS Tb rfl rfl rfl rfl) rfl rfl (kk_wl ?_))
    refine wl_u rfl (ow_y (yh_cmpI rfl rfl rfl rfl) rfl rfl (kk_wl ?_))
    refine wl_nil ?_
    refine ex_seq ?_
    refine cw_split rfl (fun c2 => ?_) (fun c2 => ?_)
    · skip
      replace h := bt c2 h
      have q3 := ltb_true.1 c2
      refine cw_skip ?_
      refine ex_seq ?_
      refine cw_seq ?_
      refine cw_block ?_
      refine cw_seq ?_
      refine cw_dr [0, 1, 2, 3, 4, 5, 6, 7, 8] [] [] (by kernel_rfl) ?_
      refine wd_take (i := 0) [] rfl rfl rfl rfl rfl (by kernel_rfl) rfl (fun _ _ _ _ h => h) (yh_move rfl rfl) ?_
      refine wd_take (i := 1) [] rfl rfl rfl rfl rfl (by kernel_rfl) rfl (fun _ _ _ _ h => h) (yh_move rfl rfl) ?_
      obtain ⟨y19, hy19, h⟩ := bd h
      obtain ⟨b19, o19, ha19⟩ := sl_addr h_a hy19
      subst ha19
      have hc19 := get_str h_a hy19
      refine wd_take (i := 2) [] rfl rfl rfl rfl rfl (by kernel_rfl) rfl (fun _ _ _ _ h => h) (yh_idx Tb (k := s5) rfl rfl rfl rfl (get_lt hy19) rfl rfl) ?_
      refine wd_take (i := 3) [] rfl rfl rfl rfl rfl (by kernel_rfl) rfl (fun _ _ _ _ h => h) (yh_loadA0 Tb rfl rfl rfl hc19 rfl) ?_
      refine wd_take (i := 4) [] rfl rfl rfl rfl rfl (by kernel_rfl) rfl (fun _ _ _ _ h => h) (yh_move rfl rfl) ?_
      refine wd_take (i := 5) [] rfl rfl rfl rfl rfl (by kernel_rfl) rfl (fun _ _ _ _ h => h) (yh_move rfl rfl) ?_
      obtain ⟨y23, hy23, h⟩ := bd h
      obtain ⟨b23, o23, ha23⟩ := sl_addr h_b hy23
      subst ha23
      have hc23 := get_str h_b hy23
      refine wd_take (i := 6) [] rfl rfl rfl rfl rfl (by kernel_rfl) rfl (fun _ _ _ _ h => h) (yh_idx Tb (k := s5) rfl rfl rfl rfl (get_lt hy23) rfl rfl) ?_
      refine wd_take (i := 7) [] rfl rfl rfl rfl rfl (by kernel_rfl) rfl (fun _ _ _ _ h => h) (yh_loadA0 Tb rfl rfl rfl hc23 rfl) ?_
      refine wd_take (i := 8) [] rfl rfl rfl rfl rfl (by kernel_rfl) rfl (fun _ _ _ _ h => h) (yh_cmpS rfl rfl rfl rfl) ?_
      refine wd_done (by kernel_rfl) ?_
      refine ex_seq ?_
      refine cw_split rfl (fun c3 => ?_) (fun c3 => ?_)
      · skip
        replace h := bt c3 h
        refine cw_seq ?_
        refine cw_region ?_
        refine wl_u rfl (ow_y (yh_assign rfl rfl) rfl rfl (kk_wl ?_))
        refine wl_nil ?_
        refine ex_seq ?_
        refine cw_ret ?_
        refine ex_block_ret ?_
        refine ex_then_ret ?_
        refine ex_then_ret ?_
        refine ex_block_ret ?_
        refine ex_then_ret ?_
        obtain rfl := Option.some.inj h
        obtain rfl := go_ret hk8
        exact ex_r1 Tb rfl (.tmp rfl) (fun wq hq => ⟨_, rfl, hq.ext, rfl⟩)
      · skip
        replace h := bf c3 h
        refine cw_skip ?_
        refine ex_block_normal ?_
        refine ex_seq ?_
        refine cw_region ?_
        refine wl_u rfl (ow_y (yh_move rfl rfl) rfl rfl (kk_wl ?_))
        refine wl_u rfl (ow_y (yh_arI rfl rfl rfl rfl (by omega)) rfl rfl (kk_wl ?_))
        refine wl_u rfl (ow_y (yh_assign rfl rfl) rfl rfl (kk_wl ?_))
        refine wl_nil ?_
        exact ex_next [] (hn8 (n8, s5 + 1) (Nat.lt_succ_self _) h) ⟨rfl, rfl, rfl, trivial⟩ rfl
    · skip
      replace h := bf c2 h
      have q4 := ltb_false.1 c2
      refine cw_exit ?_
      refine ex_then_exit ?_
      refine ex_then_exit ?_
      obtain rfl := Option.some.inj h
      have h := go_brk hk8
      refine ex_block_exit ?_
      refine ex_seq ?_
      refine cw_seq ?_
      refine cw_region ?_
      refine wl_u rfl (ow_y (yh_assign rfl rfl) rfl rfl (kk_wl ?_))
      refine wl_nil ?_
      refine ex_seq ?_
      refine cw_ret ?_
      obtain rfl := Option.some.inj h
      exact ex_r1 Tb rfl (.tmp rfl) (fun wq hq => ⟨_, rfl, hq.ext, rfl⟩)

def m_laws_sameTimers_L8 (N : Nat) (a : List Timer) (b : List Timer) : Nat → Nat → Option (Ex (Nat) (Bool))
  | 0, _ => none
  | n + 1, s5 => (bif ltb ((s5 : Nat) : Int) ((a.length : Nat) : Int) then (a[s5]?).bind fun y19 => (b[s5]?).bind fun y23 => (bif !((eqb y19.at_ y23.at_) && (seq y19.name y23.name)) then some (Ex.ret false)
 else m_laws_sameTimers_L8 N a b n (s5 + 1))
 else some (Ex.brk (s5)))

def m_laws_sameTimers (N : Nat) (a : List Timer) (b : List Timer) : Option (Bool) := (bif !(eqb ((a.length : Nat) : Int) ((b.length : Nat) : Int)) then some false
 else (m_laws_sameTimers_L8 N a b N 0).bind fun e8 => e8.go (fun r => r) fun b8 => some true)

set_option maxHeartbeats 4000000 in
theorem c_laws_sameTimers (N : Nat) (a : List Timer) (b : List Timer) (res : Bool) (h : m_laws_sameTimers N a b = some res) (w : World) {a_a a_b : Option Addr} {c_a c_b : Nat} (h_a : timersL.rd w [] [.slice a_a a.length c_a] a) (h_b : timersL.rd w [] [.slice a_b b.length c_b] b) : Ret Try.prog 24 [.slice a_a a.length c_a, .slice a_b b.length c_b] w [] fun v w' => v = .bool res := by
  have mh_a := rd_max h_a
  have mh_b := rd_max h_b
  unfold m_laws_sameTimers at h
  refine ret_enter Try.func24 rfl Try.ntmps24 rfl (Hp.refl w _) ?_
  refine cw_seq ?_
  refine cw_region ?_
  refine wl_u rfl (ow_y (yh_assign rfl rfl) rfl rfl (kk_wl ?_))
  refine wl_nil ?_
  refine ex_seq ?_
  refine cw_seq ?_
  refine cw_seq ?_
  refine cw_region ?_
  refine wl_u rfl (ow_y (yh_move rfl rfl) rfl rfl (kk_wl ?_))
  refine wl_u rfl (ow_y (yh_lenS Tb rfl rfl rfl rfl) rfl rfl (kk_wl ?_))
  refine wl_u rfl (ow_y (yh_move rfl rfl) rfl rfl (kk_wl ?_))
  refine wl_u rfl (ow_y (yh_lenS Tb rfl rfl rfl rfl) rfl rfl (kk_wl ?_))
  refine wl_u rfl (ow_y (yh_cmpI rfl rfl rfl rfl) rfl rfl (kk_wl ?_))
  refine wl_nil ?_
  refine ex_seq ?_
  refine cw_split rfl (fun c1 => ?_) (fun c1 => ?_)
  · skip
    replace h := bt c1 h
    have q1 := eqb_false.1 (nt c1)
    refine cw_seq ?_
    refine cw_region ?_
    refine wl_u rfl (ow_y (yh_assign rfl rfl) rfl rfl (kk_wl ?_))
    refine wl_nil ?_
    refine ex_seq ?_
    refine cw_ret ?_
    refine ex_then_ret ?_
    obtain rfl := Option.some.inj h
    exact ex_r1 Tb rfl (.tmp rfl) (fun wq hq => ⟨_, rfl, hq.ext, rfl⟩)
  · skip
    replace h := bf c1 h
    have q2 := eqb_true.1 (nf c1)
    refine cw_skip ?_
    refine ex_seq ?_
    refine cw_seq ?_
    refine cw_seq ?_
    refine cw_region ?_
    refine wl_u rfl (ow_y (yh_assign rfl rfl) rfl rfl (kk_wl ?_))
    refine wl_nil ?_
    refine ex_seq ?_
    refine cw_block ?_
    obtain ⟨e8, he8, hk8⟩ := bd h
    clear h
    refine cw_loopG (σ := Nat × Nat) (fun s => m_laws_sameTimers_L8 N a b s.1 s.2 = some e8) (fun s => [(0, .slice a_a a.length c_a), (1, .slice a_b b.length c_b), (5, .int .i64 ((s.2 : Nat) : Int))]) (fun s => []) (fun s => s.1) (N, 0) [] he8 ⟨rfl, rfl, rfl, trivial⟩ rfl (fun KL s he8 hn8 => ?_)
    obtain ⟨n8, s5⟩ := s
    simp only at he8 hn8 ⊢
    rcases n8 with _ | n8
    · exact nosome he8
    have h := he8; rw [m_laws_sameTimers_L8] at h
    refine cw_seq ?_
    refine cw_seq ?_
    refine cw_region ?_
    refine wl_u rfl (ow_y (yh_move rfl rfl) rfl rfl (kk_wl ?_))
    refine wl_u rfl (ow_y (yh_move rfl rfl) rfl rfl (kk_wl ?_))
    refine wl_u rfl (ow_y (yh_lenS Tb rfl rfl rfl rfl) rfl rfl (kk_wl ?_))
    refine wl_u rfl (ow_y (yh_cmpI rfl rfl rfl rfl) rfl rfl (kk_wl ?_))
    refine wl_nil ?_
    refine ex_seq ?_
    refine cw_split rfl (fun c2 => ?_) (fun c2 => ?_)
    · skip
      replace h := bt c2 h
      have q3 := ltb_true.1 c2
      refine cw_skip ?_
      refine ex_seq ?_
      refine cw_seq ?_
      refine cw_block ?_
      refine cw_seq ?_
      refine cw_dr [0, 1, 2, 3, 4, 5, 6, 7, 8] [] [] (by kernel_rfl) ?_
      refine wd_take (i := 0) [] rfl rfl rfl rfl rfl (by kernel_rfl) rfl (fun _ _ _ _ h => h) (yh_move rfl rfl) ?_
      refine wd_take (i := 1) [] rfl rfl rfl rfl rfl (by kernel_rfl) rfl (fun _ _ _ _ h => h) (yh_move rfl rfl) ?_
      obtain ⟨y19, hy19, h⟩ := bd h
      obtain ⟨b19, o19, ha19⟩ := sl_addr h_a hy19
      subst ha19
      have hc19 := get_timer h_a hy19
      refine wd_take (i := 2) [] rfl rfl rfl rfl rfl (by kernel_rfl) rfl (fun _ _ _ _ h => h) (yh_idx Tb (k := s5) rfl rfl rfl rfl (get_lt hy19) rfl rfl) ?_
      refine wd_take (i := 3) [] rfl rfl rfl rfl rfl (by kernel_rfl) rfl (fun _ _ _ _ h => h) (yh_loadAN Tb rfl rfl rfl rfl hc19 rfl) ?_
      refine wd_take (i := 4) [] rfl rfl rfl rfl rfl (by kernel_rfl) rfl (fun _ _ _ _ h => h) (yh_move rfl rfl) ?_
      refine wd_take (i := 5) [] rfl rfl rfl rfl rfl (by kernel_rfl) rfl (fun _ _ _ _ h => h) (yh_move rfl rfl) ?_
      obtain ⟨y23, hy23, h⟩ := bd h
      obtain ⟨b23, o23, ha23⟩ := sl_addr h_b hy23
      subst ha23
      have hc23 := get_timer h_b hy23
      refine wd_take (i := 6) [] rfl rfl rfl rfl rfl (by kernel_rfl) rfl (fun _ _ _ _ h => h) (yh_idx Tb (k := s5) rfl rfl rfl rfl (get_lt hy23) rfl rfl) ?_
      refine wd_take (i := 7) [] rfl rfl rfl rfl rfl (by kernel_rfl) rfl (fun _ _ _ _ h => h) (yh_loadAN Tb rfl rfl rfl rfl hc23 rfl) ?_
      refine wd_take (i := 8) [] rfl rfl rfl rfl rfl (by kernel_rfl) rfl (fun _ _ _ _ h => h) (yh_cmpA rfl rfl rfl rfl (by kernel_rfl)) ?_
      refine wd_done (by kernel_rfl) ?_
      refine ex_seq ?_
      refine cw_split rfl (fun c3 => ?_) (fun c3 => ?_)
      · skip
        replace h := bt c3 h
        refine cw_seq ?_
        refine cw_region ?_
        refine wl_u rfl (ow_y (yh_assign rfl rfl) rfl rfl (kk_wl ?_))
        refine wl_nil ?_
        refine ex_seq ?_
        refine cw_ret ?_
        refine ex_block_ret ?_
        refine ex_then_ret ?_
        refine ex_then_ret ?_
        refine ex_block_ret ?_
        refine ex_then_ret ?_
        obtain rfl := Option.some.inj h
        obtain rfl := go_ret hk8
        exact ex_r1 Tb rfl (.tmp rfl) (fun wq hq => ⟨_, rfl, hq.ext, rfl⟩)
      · skip
        replace h := bf c3 h
        refine cw_skip ?_
        refine ex_block_normal ?_
        refine ex_seq ?_
        refine cw_region ?_
        refine wl_u rfl (ow_y (yh_move rfl rfl) rfl rfl (kk_wl ?_))
        refine wl_u rfl (ow_y (yh_arI rfl rfl rfl rfl (by omega)) rfl rfl (kk_wl ?_))
        refine wl_u rfl (ow_y (yh_assign rfl rfl) rfl rfl (kk_wl ?_))
        refine wl_nil ?_
        exact ex_next [] (hn8 (n8, s5 + 1) (Nat.lt_succ_self _) h) ⟨rfl, rfl, rfl, trivial⟩ rfl
    · skip
      replace h := bf c2 h
      have q4 := ltb_false.1 c2
      refine cw_exit ?_
      refine ex_then_exit ?_
      refine ex_then_exit ?_
      obtain rfl := Option.some.inj h
      have h := go_brk hk8
      refine ex_block_exit ?_
      refine ex_seq ?_
      refine cw_seq ?_
      refine cw_region ?_
      refine wl_u rfl (ow_y (yh_assign rfl rfl) rfl rfl (kk_wl ?_))
      refine wl_nil ?_
      refine ex_seq ?_
      refine cw_ret ?_
      obtain rfl := Option.some.inj h
      exact ex_r1 Tb rfl (.tmp rfl) (fun wq hq => ⟨_, rfl, hq.ext, rfl⟩)

end Go.Proofs.Ytddifmlipmmlkaa
