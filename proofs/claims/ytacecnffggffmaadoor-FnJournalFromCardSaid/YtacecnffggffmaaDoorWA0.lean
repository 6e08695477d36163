/- Mirrors and contracts, printed by a program: what each function computes as a plain term, and that it does. -/
import Derived.Test.YtacecnffggffmaaDoorR
import Derived.Test.YtacecnffggffmaaDoorB
set_option linter.all false
set_option maxRecDepth 100000
namespace Go.Proofs.YtacecnffggffmaaDoor
open Go.RowKit

def m_spec_l6Rd_of (N : Nat) (cd : List UInt8) (p : Nat) (list_ : List Str) : Option ((Str) × Nat) := (m_spec_l6Rd_pick N cd p ((list_.length : Nat) : Int)).bind fun x9 => (geti list_ x9.1).bind fun y10 => some (y10, x9.2)

set_option maxHeartbeats 4000000 in
theorem c_spec_l6Rd_of (N : Nat) (cd : List UInt8) (p : Nat) (list_ : List Str) (res : (Str) × Nat) (h : m_spec_l6Rd_of N cd p list_ = some res) (w : World) {a_list_ : Option Addr} {c_list_ : Nat} {r ccd : Nat} {acd : Option Addr} (hr : (blkC r 63 [.slice acd cd.length ccd, .int .i64 ((p : Nat) : Int)]).A w) (hcd : bytesL.rd w [r] [.slice acd cd.length ccd] cd) (h_list_ : strsL.rd w [r] [.slice a_list_ list_.length c_list_] list_) : Ret Tryd.prog 36 [.pointer (some ⟨r, 0, none⟩), .slice a_list_ list_.length c_list_] w [r] fun v w' => v = .string res.1 ∧ NewM w w' [r] [blkC r 63 [.slice acd cd.length ccd, .int .i64 ((res.2 : Nat) : Int)]] := by
  have mh_list_ := rd_max h_list_
  have mhcd := rd_max hcd
  unfold m_spec_l6Rd_of at h
  refine ret_enter Tryd.func36 rfl Tryd.ntmps36 rfl (hp_one hr (by simp [blkC])) ?_
  refine cw_seq ?_
  refine cw_region ?_
  refine wl_u rfl (ow_y (yh_assign rfl rfl) rfl rfl (kk_wl ?_))
  refine wl_nil ?_
  refine ex_seq ?_
  refine cw_seq ?_
  refine cw_region ?_
  refine wl_u rfl (ow_y (yh_move rfl rfl) rfl rfl (kk_wl ?_))
  refine wl_u rfl (ow_y (yh_move rfl rfl) rfl rfl (kk_wl ?_))
  refine wl_u rfl (ow_y (yh_move rfl rfl) rfl rfl (kk_wl ?_))
  refine wl_u rfl (ow_y (yh_lenS Tb rfl rfl rfl rfl) rfl rfl (kk_wl ?_))
  obtain ⟨x9, hx9, h⟩ := bd h
  refine wl_u rfl (ow_cM0 0 rfl hb23 rfl rfl (fun w hw => c_spec_l6Rd_pick N _ _ _ _ hx9 w (hw.at (i := 0) rfl) (Lay.atR (i := 0) hcd rfl hw)) rfl rfl (kk_wl ?_))
  obtain ⟨y10, zy10, h⟩ := bd h
  obtain ⟨iy10, hy10⟩ := geti_some zy10
  obtain ⟨b10, o10, ha10⟩ := sl_addr h_list_ hy10
  subst ha10
  have hc10 := get_str h_list_ hy10
  refine wl_u rfl (ow_y (yh_idx Tb (k := x9.1.toNat) rfl rfl rfl iy10 (get_lt hy10) rfl rfl) rfl rfl (kk_wl ?_))
  refine wl_u rfl (ow_y (yh_loadA0 Tb rfl rfl rfl hc10 rfl) rfl rfl (kk_wl ?_))
  refine wl_u rfl (ow_y (yh_assign rfl rfl) rfl rfl (kk_wl ?_))
  refine wl_nil ?_
  refine ex_seq ?_
  refine cw_ret ?_
  obtain rfl := Option.some.inj h
  exact ex_r1 Tb rfl (.tmp rfl) (fun wq hq => ⟨_, rfl, hq.ext, ⟨rfl, NewM.sel [0] hq rfl⟩⟩)

def m_spec_l91List_L6 (N : Nat) (cd : List UInt8) (x8 : (Int) × Nat) : Nat → Nat → (List Event) → Nat → Option (Ex (Nat × List Event × Nat) ((List Event) × Nat))
  | 0, _, _, _ => none
  | n + 1, s0_c_1, s3, s5 => (bif ltb ((s5 : Nat) : Int) x8.1 then (m_spec_l6Rd_pick N cd s0_c_1 3).bind fun x16 => (m_spec_l6Rd_of N cd x16.2 ([(⟨#[97]⟩ : Str), (⟨#[98]⟩ : Str), (⟨#[112, 97, 121]⟩ : Str)] : List Str)).bind fun x20 => (appd s3 ([(Event.mk (w64 (1 + x16.1)) x20.1)] : List Event)).bind fun l23 => m_spec_l91List_L6 N cd x8 n x20.2 (s3 ++ ([(Event.mk (w64 (1 + x16.1)) x20.1)] : List Event)) (s5 + 1)
 else some (Ex.brk (s0_c_1, s3, s5)))

def m_spec_l91List (N : Nat) (cd : List UInt8) (p : Nat) : Option ((List Event) × Nat) := (m_spec_l6Rd_pick N cd p 5).bind fun x8 => (m_spec_l91List_L6 N cd x8 N x8.2 ([] : List Event) 0).bind fun e6 => e6.go (fun r => r) fun b6 => some (b6.2.1, b6.1)

set_option maxHeartbeats 4000000 in
theorem c_spec_l91List (N : Nat) (cd : List UInt8) (p : Nat) (res : (List Event) × Nat) (h : m_spec_l91List N cd p = some res) (w : World) {r ccd : Nat} {acd : Option Addr} (hr : (blkC r 63 [.slice acd cd.length ccd, .int .i64 ((p : Nat) : Int)]).A w) (hcd : bytesL.rd w [r] [.slice acd cd.length ccd] cd) : Ret Tryd.prog 22 [.pointer (some ⟨r, 0, none⟩)] w [r] fun v w' => ∃ a1 c1 F1, v = .slice a1 res.1.length c1 ∧ NewM w w' [r] [owC eventsL F1 [.slice a1 res.1.length c1] res.1, blkC r 63 [.slice acd cd.length ccd, .int .i64 ((res.2 : Nat) : Int)]] := by
  have mhcd := rd_max hcd
  unfold m_spec_l91List at h
  refine ret_enter Tryd.func22 rfl Tryd.ntmps22 rfl (hp_one hr (by simp [blkC])) ?_
  refine cw_seq ?_
  refine cw_region ?_
  refine wl_u rfl (ow_y (yh_assign rfl rfl) rfl rfl (kk_wl ?_))
  refine wl_nil ?_
  refine ex_seq ?_
  refine cw_seq ?_
  refine cw_region ?_
  refine wl_u rfl (ow_lit0 Tb rfl rfl rfl rfl rfl rfl (fun g6 => kk_chg (c' := owC eventsL [g6] [.slice (some ⟨g6, 0, none⟩) 0 0] ([] : List Event)) 0 rfl (fun w hA => own_eventsL ([] : List Event) hA rfl (by simp [maxLen])) rfl (kk_wl ?_)))
  refine wl_u rfl (ow_y (yh_assign rfl rfl) rfl rfl (kk_wl ?_))
  refine wl_nil ?_
  refine ex_seq ?_
  refine cw_seq ?_
  refine cw_region ?_
  refine wl_u rfl (ow_y (yh_move rfl rfl) rfl rfl (kk_wl ?_))
  obtain ⟨x8, hx8, h⟩ := bd h
  have mp8 := pick_lt hx8 (by decide)
  refine wl_u rfl (ow_cM0 1 rfl hb23 rfl rfl (fun w hw => c_spec_l6Rd_pick N _ _ _ _ hx8 w (hw.at (i := 1) rfl) (Lay.atR (i := 1) hcd rfl hw)) rfl rfl (kk_wl ?_))
  refine wl_u rfl (ow_y (yh_assign rfl rfl) rfl rfl (kk_wl ?_))
  refine wl_nil ?_
  refine ex_seq ?_
  refine cw_seq ?_
  refine cw_seq ?_
  refine cw_region ?_
  refine wl_u rfl (ow_y (yh_assign rfl rfl) rfl rfl (kk_wl ?_))
  refine wl_nil ?_
  refine ex_seq ?_
  refine cw_block ?_
  obtain ⟨e6, he6, hk6⟩ := bd h
  clear h
  refine cw_loopG (σ := Nat × Nat × (List Event) × Nat × (Option Addr) × Nat × (List Nat)) (fun s => m_spec_l91List_L6 N cd x8 s.1 s.2.1 s.2.2.1 s.2.2.2.1 = some e6) (fun s => [(0, .pointer (some ⟨r, 0, none⟩)), (3, .slice s.2.2.2.2.1 s.2.2.1.length s.2.2.2.2.2.1), (4, .int .i64 x8.1), (5, .int .i64 ((s.2.2.2.1 : Nat) : Int))]) (fun s => [blkC r 63 [.slice acd cd.length ccd, .int .i64 ((s.2.1 : Nat) : Int)], owC eventsL s.2.2.2.2.2.2 [.slice s.2.2.2.2.1 s.2.2.1.length s.2.2.2.2.2.1] s.2.2.1]) (fun s => s.1) (N, x8.2, ([] : List Event), 0, (some ⟨g6, 0, none⟩), 0, [g6]) [0, 1] he6 ⟨rfl, rfl, rfl, rfl, trivial⟩ rfl (fun KL s he6 hn6 => ?_)
  obtain ⟨n6, s0_c_1, s3, s5, as3, cs3, Fs3⟩ := s
  simp only at he6 hn6 ⊢
  rcases n6 with _ | n6
  · exact nosome he6
  have h := he6; rw [m_spec_l91List_L6] at h
  refine cw_seq ?_
  refine cw_seq ?_
  refine cw_region ?_
  refine wl_u rfl (ow_y (yh_move rfl rfl) rfl rfl (kk_wl ?_))
  refine wl_u rfl (ow_y (yh_move rfl rfl) rfl rfl (kk_wl ?_))
  refine wl_u rfl (ow_y (yh_cmpI rfl rfl rfl rfl) rfl rfl (kk_wl ?_))
  refine wl_nil ?_
  refine ex_seq ?_
  refine cw_split rfl (fun cc1 => ?_) (fun cc1 => ?_)
  · skip
    replace h := bt cc1 h
    have q1 := ltb_true.1 cc1
    refine cw_skip ?_
    refine ex_seq ?_
    refine cw_seq ?_
    refine cw_block ?_
    refine cw_region ?_
    refine wl_u rfl (ow_y (yh_move rfl rfl) rfl rfl (kk_wl ?_))
    refine wl_u rfl (ow_y (yh_move rfl rfl) rfl rfl (kk_wl ?_))
    obtain ⟨x16, hx16, h⟩ := bd h
    have mp16 := pick_lt hx16 (by decide)
    refine wl_u rfl (ow_cM0 0 rfl hb23 rfl rfl (fun w hw => c_spec_l6Rd_pick N _ _ _ _ hx16 w (hw.at (i := 0) rfl) (Lay.atR (i := 0) hcd rfl hw)) rfl rfl (kk_wl ?_))
    refine wl_u rfl (ow_y (yh_arW rfl rfl rfl rfl) rfl rfl (kk_wl ?_))
    refine wl_u rfl (ow_y (yh_move rfl rfl) rfl rfl (kk_wl ?_))
    refine wl_u rfl (ow_lit1 Tb rfl rfl rfl rfl rfl rfl rfl rfl rfl rfl (fun g19 => kk_chg (c' := owC strsL [g19] [.slice (some ⟨g19, 0, none⟩) 3 3] ([(⟨#[97]⟩ : Str), (⟨#[98]⟩ : Str), (⟨#[112, 97, 121]⟩ : Str)] : List Str)) 0 rfl (fun w hA => own_strsL ([(⟨#[97]⟩ : Str), (⟨#[98]⟩ : Str), (⟨#[112, 97, 121]⟩ : Str)] : List Str) hA rfl (by simp [maxLen])) rfl (kk_wl ?_)))
    obtain ⟨x20, hx20, h⟩ := bd h
    refine wl_u rfl (ow_cM0 1 rfl hb36 rfl rfl (fun w hw => c_spec_l6Rd_of N _ _ _ _ hx20 w (hw.at (i := 1) rfl) (Lay.atR (i := 1) hcd rfl hw) (rdoR (A := strsL) 0 1 rfl rfl rfl hw)) rfl rfl (kk_wl ?_))
    refine wl_u rfl (ow_y (yh_buildA rfl rfl (by kernel_rfl)) rfl rfl (kk_wl ?_))
    refine wl_u rfl (ow_litA Tb rfl rfl rfl rfl rfl rfl (by decide) rfl rfl (fun g22 => kk_chg (c' := owC eventsL [g22] [.slice (some ⟨g22, 0, none⟩) 1 1] ([(Event.mk (w64 (1 + x16.1)) x20.1)] : List Event)) 0 rfl (fun w hA => own_eventsL ([(Event.mk (w64 (1 + x16.1)) x20.1)] : List Event) hA rfl (by simp [maxLen])) rfl (kk_wl ?_)))
    obtain ⟨hll23, h⟩ := bd_appd h
    refine wl_u rfl (ow_appP Tb (i := 3) rfl rfl rfl rfl rfl (fun w hw => rdo (A := eventsL) 0 rfl hw) rfl rfl rfl rfl hll23 (by decide) rfl rfl (fun a23 c23 F23 => kk_wl ?_))
    refine wl_u rfl (ow_y (yh_assign rfl rfl) rfl rfl (kk_wl ?_))
    refine wl_nil ?_
    refine ex_block_normal ?_
    refine ex_seq ?_
    refine cw_region ?_
    refine wl_u rfl (ow_y (yh_move rfl rfl) rfl rfl (kk_wl ?_))
    refine wl_u rfl (ow_y (yh_arI rfl rfl rfl rfl (by omega)) rfl rfl (kk_wl ?_))
    refine wl_u rfl (ow_y (yh_assign rfl rfl) rfl rfl (kk_wl ?_))
    refine wl_nil ?_
    exact ex_next [2, 0] (hn6 (n6, x20.2, (s3 ++ ([(Event.mk (w64 (1 + x16.1)) x20.1)] : List Event)), s5 + 1, a23, c23, F23) (Nat.lt_succ_self _) h) ⟨rfl, rfl, rfl, rfl, trivial⟩ (by kernel_rfl)
  · skip
    replace h := bf cc1 h
    have q2 := ltb_false.1 cc1
    refine cw_exit ?_
    refine ex_then_exit ?_
    refine ex_then_exit ?_
    obtain rfl := Option.some.inj h
    have h := go_brk hk6
    refine ex_block_exit ?_
    refine ex_seq ?_
    refine cw_seq ?_
    refine cw_region ?_
    refine wl_u rfl (ow_y (yh_move rfl rfl) rfl rfl (kk_wl ?_))
    refine wl_u rfl (ow_y (yh_assign rfl rfl) rfl rfl (kk_wl ?_))
    refine wl_nil ?_
    refine ex_seq ?_
    refine cw_ret ?_
    obtain rfl := Option.some.inj h
    exact ex_r1 Tb rfl (.tmp rfl) (fun wq hq => ⟨_, rfl, hq.ext, ⟨as3, cs3, Fs3, rfl, NewM.sel [1, 0] hq rfl⟩⟩)

def m_spec_DrawJournalText (N : Nat) (code : List UInt8) : Option (List Event) := (m_spec_l91List N (code.take 2000) 0).bind fun x8 => (bif ltb 0 ((x8.1.length : Nat) : Int) then (m_spec_l6Rd_pick N (code.take 2000) x8.2 16).bind fun x14 => (bif eqb x14.1 0 then (x8.1[0]?).bind fun y18 => some (x8.1.set 0 (Event.mk 0 y18.name))
 else some x8.1)
 else some x8.1)

set_option maxHeartbeats 4000000 in
theorem c_spec_DrawJournalText (N : Nat) (code : List UInt8) (res : List Event) (h : m_spec_DrawJournalText N code = some res) (w : World) {a_code : Option Addr} {c_code : Nat} (h_code : bytesL.rd w [] [.slice a_code code.length c_code] code) : Ret Tryd.prog 9 [.slice a_code code.length c_code] w [] fun v w' => ∃ a1 c1 F1, v = .slice a1 res.length c1 ∧ NewC w w' [owC eventsL F1 [.slice a1 res.length c1] res] := by
  have mh_code := rd_max h_code
  unfold m_spec_DrawJournalText at h
  refine ret_enter Tryd.func9 rfl Tryd.ntmps9 rfl (Hp.refl w _) ?_
  refine cw_seq ?_
  refine cw_region ?_
  refine wl_u rfl (ow_y (yh_assign rfl rfl) rfl rfl (kk_wl ?_))
  refine wl_nil ?_
  refine ex_seq ?_
  refine cw_seq ?_
  refine cw_region ?_
  refine wl_u rfl (ow_y (yh_move rfl rfl) rfl rfl (kk_wl ?_))
  have hf6 := take_fact h_code 2000
  refine wl_u rfl (ow_open rfl rfl (fun w hw => Lay.at_ h_code hw) rfl rfl (fun g6 => kk_wl ?_))
  refine wl_u rfl (ow_y (yh_assign rfl rfl) rfl rfl (kk_wl ?_))
  refine wl_nil ?_
  refine ex_seq ?_
  refine cw_seq ?_
  refine cw_region ?_
  refine wl_u rfl (ow_y (yh_move rfl rfl) rfl rfl (kk_wl ?_))
  obtain ⟨x8, hx8, h⟩ := bd h
  refine wl_u rfl (ow_cM1 0 rfl hb22 rfl rfl (fun w hw => c_spec_l91List N _ _ _ hx8 w (hw.at (i := 0) rfl) (Lay.atR (i := 0) hf6 rfl hw)) rfl rfl (fun a8 c8 F8 => kk_wl ?_))
  refine wl_u rfl (ow_y (yh_assign rfl rfl) rfl rfl (kk_wl ?_))
  refine wl_nil ?_
  refine ex_seq ?_
  refine cw_seq ?_
  refine cw_seq ?_
  refine cw_region ?_
  refine wl_u rfl (ow_y (yh_move rfl rfl) rfl rfl (kk_wl ?_))
  refine wl_know (x8.1.length ≤ 9223372036854775807) (fun w hw => own_max 0 rfl hw) (fun mo10 => ?_)
  refine wl_u rfl (ow_y (yh_lenS Tb rfl rfl rfl rfl) rfl rfl (kk_wl ?_))
  refine wl_u rfl (ow_y (yh_cmpI rfl rfl rfl rfl) rfl rfl (kk_wl ?_))
  refine wl_u rfl (ow_y (yh_move rfl rfl) rfl rfl (kk_wl ?_))
  refine wl_s rfl rfl (fun cc1 => ?_) (fun cc1 => ?_)
  · skip
    replace h := bt cc1 h
    have q1 := ltb_true.1 cc1
    refine wl_g rfl rfl (ow_y (yh_move rfl rfl) rfl rfl (kk_wl ?_))
    obtain ⟨x14, hx14, h⟩ := bd h
    have mp14 := pick_lt hx14 (by decide)
    refine wl_g rfl rfl (ow_cM0 1 rfl hb23 rfl rfl (fun w hw => c_spec_l6Rd_pick N _ _ _ _ hx14 w (hw.at (i := 1) rfl) (Lay.atR (i := 1) hf6 rfl hw)) rfl rfl (kk_wl ?_))
    refine wl_g rfl rfl (ow_y (yh_cmpI rfl rfl rfl rfl) rfl rfl (kk_wl ?_))
    refine wl_u rfl (ow_y (yh_pickT rfl rfl rfl) rfl rfl (kk_wl ?_))
    refine wl_nil ?_
    refine ex_seq ?_
    refine cw_split rfl (fun cc2 => ?_) (fun cc2 => ?_)
    · skip
      replace h := bt cc2 h
      have q2 := eqb_true.1 cc2
      refine cw_region ?_
      refine wl_u rfl (ow_y (yh_move rfl rfl) rfl rfl (kk_wl ?_))
      obtain ⟨y18, hy18, h⟩ := bd h
      refine wl_ex (fun g => a8 = some ⟨g, 0, none⟩) (fun w hw => by exact own_addrK 1 rfl hy18 hw) (fun g18 hg18 => ?_)
      subst hg18
      refine wl_u rfl (ow_y (yh_idx Tb (k := 0) rfl rfl rfl rfl (get_lt hy18) rfl rfl) rfl rfl (kk_wl ?_))
      refine wl_u rfl (ow_y (yh_field Tb rfl rfl rfl) rfl rfl (kk_wl ?_))
      refine wl_u rfl (ow_storeF2 Tb 1 0 (u := (Event.mk 0 y18.name)) rfl rfl rfl rfl rfl rfl (by decide) hy18 rfl rfl (kk_wl ?_))
      refine wl_nil ?_
      refine ex_seq ?_
      refine cw_seq ?_
      refine cw_region ?_
      refine wl_u rfl (ow_y (yh_move rfl rfl) rfl rfl (kk_wl ?_))
      refine wl_u rfl (ow_y (yh_assign rfl rfl) rfl rfl (kk_wl ?_))
      refine wl_nil ?_
      refine ex_seq ?_
      refine cw_ret ?_
      refine ex_know (x8.1.length = (x8.1.set 0 (Event.mk 0 y18.name)).length) (fun w hw => own_lenK 0 rfl hw) (fun hn0_ => ?_)
      obtain rfl := Option.some.inj h
      exact ex_r1 Tb rfl (.tmp rfl) (fun wq hq => ⟨_, rfl, hq.ext, ⟨(some ⟨g18, 0, none⟩), c8, F8, (by simp only [hn0_]), (by simp only [← hn0_]; exact NewC.sel [0] hq rfl)⟩⟩)
    · skip
      replace h := bf cc2 h
      have q3 := eqb_false.1 cc2
      refine cw_skip ?_
      refine ex_seq ?_
      refine cw_seq ?_
      refine cw_region ?_
      refine wl_u rfl (ow_y (yh_move rfl rfl) rfl rfl (kk_wl ?_))
      refine wl_u rfl (ow_y (yh_assign rfl rfl) rfl rfl (kk_wl ?_))
      refine wl_nil ?_
      refine ex_seq ?_
      refine cw_ret ?_
      obtain rfl := Option.some.inj h
      exact ex_r1 Tb rfl (.tmp rfl) (fun wq hq => ⟨_, rfl, hq.ext, ⟨a8, c8, F8, rfl, NewC.sel [1] hq rfl⟩⟩)
  · skip
    replace h := bf cc1 h
    have q4 := ltb_false.1 cc1
    refine wl_n rfl rfl rfl rfl ?_
    refine wl_n rfl rfl rfl rfl ?_
    refine wl_n rfl rfl rfl rfl ?_
    refine wl_u rfl (ow_y (yh_pickF rfl rfl rfl) rfl rfl (kk_wl ?_))
    refine wl_nil ?_
    refine ex_seq ?_
    refine cw_false rfl ?_
    refine cw_skip ?_
    refine ex_seq ?_
    refine cw_seq ?_
    refine cw_region ?_
    refine wl_u rfl (ow_y (yh_move rfl rfl) rfl rfl (kk_wl ?_))
    refine wl_u rfl (ow_y (yh_assign rfl rfl) rfl rfl (kk_wl ?_))
    refine wl_nil ?_
    refine ex_seq ?_
    refine cw_ret ?_
    obtain rfl := Option.some.inj h
    exact ex_r1 Tb rfl (.tmp rfl) (fun wq hq => ⟨_, rfl, hq.ext, ⟨a8, c8, F8, rfl, NewC.sel [0] hq rfl⟩⟩)

def m_impl_NameValid_L8 (N : Nat) (s_ : Str) : Nat → Nat → Option (Ex (Nat) (Bool))
  | 0, _ => none
  | n + 1, s14 => (bif ltb ((s14 : Nat) : Int) ((s_.size : Nat) : Int) then (bget s_ s14).bind fun y19 => (bif ltb ((y19 : Nat) : Int) 97 then some (Ex.ret false)
 else (bget s_ s14).bind fun y24 => (bif ltb 122 ((y24 : Nat) : Int) then some (Ex.ret false)
 else m_impl_NameValid_L8 N s_ n (s14 + 1)))
 else some (Ex.brk (s14)))

def m_impl_NameValid (N : Nat) (s_ : Str) : Option (Bool) := (ssz s_).bind fun z5 => (bif ltb ((s_.size : Nat) : Int) 1 then some false
 else (bif ltb 5 ((s_.size : Nat) : Int) then some false
 else (m_impl_NameValid_L8 N s_ N 0).bind fun e8 => e8.go (fun r => r) fun b8 => some true))

set_option maxHeartbeats 4000000 in
theorem c_impl_NameValid (N : Nat) (s_ : Str) (res : Bool) (h : m_impl_NameValid N s_ = some res) (w : World) : Ret Tryd.prog 51 [.string s_] w [] fun v w' => v = .bool res := by
  unfold m_impl_NameValid at h
  refine ret_enter Tryd.func51 rfl Tryd.ntmps51 rfl (Hp.refl w _) ?_
  refine cw_seq ?_
  refine cw_region ?_
  refine wl_u rfl (ow_y (yh_assign rfl rfl) rfl rfl (kk_wl ?_))
  refine wl_nil ?_
  refine ex_seq ?_
  refine cw_seq ?_
  refine cw_seq ?_
  refine cw_region ?_
  refine wl_u rfl (ow_y (yh_move rfl rfl) rfl rfl (kk_wl ?_))
  obtain ⟨z5, hz5, h⟩ := bd h
  have mz5 := ssz_some hz5
  refine wl_u rfl (ow_y (yh_lenT Tb rfl rfl rfl rfl) rfl rfl (kk_wl ?_))
  refine wl_u rfl (ow_y (yh_cmpI rfl rfl rfl rfl) rfl rfl (kk_wl ?_))
  refine wl_u rfl (ow_y (yh_move rfl rfl) rfl rfl (kk_wl ?_))
  refine wl_s rfl rfl (fun cc1 => ?_) (fun cc1 => ?_)
  · skip
    replace h := bt cc1 h
    have q1 := ltb_true.1 cc1
    refine wl_n rfl rfl rfl rfl ?_
    refine wl_n rfl rfl rfl rfl ?_
    refine wl_n rfl rfl rfl rfl ?_
    refine wl_u rfl (ow_y (yh_pickT rfl rfl rfl) rfl rfl (kk_wl ?_))
    refine wl_nil ?_
    refine ex_seq ?_
    refine cw_true rfl ?_
    refine cw_seq ?_
    refine cw_region ?_
    refine wl_u rfl (ow_y (yh_assign rfl rfl) rfl rfl (kk_wl ?_))
    refine wl_nil ?_
    refine ex_seq ?_
    refine cw_ret ?_
    refine ex_then_ret ?_
    obtain rfl := Option.some.inj h
    exact ex_r1 Tb rfl (.tmp rfl) (fun wq hq => ⟨_, rfl, hq.ext, rfl⟩)
  · skip
    replace h := bf cc1 h
    have q2 := ltb_false.1 cc1
    refine wl_g rfl rfl (ow_y (yh_move rfl rfl) rfl rfl (kk_wl ?_))
    refine wl_g rfl rfl (ow_y (yh_lenT Tb rfl rfl rfl rfl) rfl rfl (kk_wl ?_))
    refine wl_g rfl rfl (ow_y (yh_cmpI rfl rfl rfl rfl) rfl rfl (kk_wl ?_))
    refine wl_u rfl (ow_y (yh_pickF rfl rfl rfl) rfl rfl (kk_wl ?_))
    refine wl_nil ?_
    refine ex_seq ?_
    refine cw_split rfl (fun cc2 => ?_) (fun cc2 => ?_)
    · skip
      replace h := bt cc2 h
      have q3 := ltb_true.1 cc2
      refine cw_seq ?_
      refine cw_region ?_
      refine wl_u rfl (ow_y (yh_assign rfl rfl) rfl rfl (kk_wl ?_))
      refine wl_nil ?_
      refine ex_seq ?_
      refine cw_ret ?_
      refine ex_then_ret ?_
      obtain rfl := Option.some.inj h
      exact ex_r1 Tb rfl (.tmp rfl) (fun wq hq => ⟨_, rfl, hq.ext, rfl⟩)
    · skip
      replace h := bf cc2 h
      have q4 := ltb_false.1 cc2
      refine cw_skip ?_
      refine ex_seq ?_
      refine cw_seq ?_
      refine cw_seq ?_
      refine cw_region ?_
      refine wl_u rfl (ow_y (yh_move rfl rfl) rfl rfl (kk_wl ?_))
      refine wl_u rfl (ow_y (yh_lenT Tb rfl rfl rfl rfl) rfl rfl (kk_wl ?_))
      refine wl_u rfl (ow_y (yh_move rfl rfl) rfl rfl (kk_wl ?_))
      refine wl_nil ?_
      refine ex_seq ?_
      refine cw_block ?_
      obtain ⟨e8, he8, hk8⟩ := bd h
      clear h
      refine cw_loopG (σ := Nat × Nat) (fun s => m_impl_NameValid_L8 N s_ s.1 s.2 = some e8) (fun s => [(0, .string s_), (13, .int .i64 ((s_.size : Nat) : Int)), (14, .int .i64 ((s.2 : Nat) : Int))]) (fun s => []) (fun s => s.1) (N, 0) [] he8 ⟨rfl, rfl, rfl, trivial⟩ rfl (fun KL s he8 hn8 => ?_)
      obtain ⟨n8, s14⟩ := s
      simp only at he8 hn8 ⊢
      rcases n8 with _ | n8
      · exact nosome he8
      have h := he8; rw [m_impl_NameValid_L8] at h
      refine cw_seq ?_
      refine cw_region ?_
      refine wl_u rfl (ow_y (yh_cmpI rfl rfl rfl rfl) rfl rfl (kk_wl ?_))
      refine wl_nil ?_
      refine ex_seq ?_
      refine cw_seq ?_
      refine cw_split rfl (fun cc3 => ?_) (fun cc3 => ?_)
      · skip
        replace h := bt cc3 h
        have q5 := ltb_true.1 cc3
        refine cw_skip ?_
        refine ex_seq ?_
        refine cw_seq ?_
        refine cw_block ?_
        refine cw_seq ?_
        refine cw_region ?_
        refine wl_u rfl (ow_y (yh_move rfl rfl) rfl rfl (kk_wl ?_))
        refine wl_u rfl (ow_y (yh_assign rfl rfl) rfl rfl (kk_wl ?_))
        refine wl_nil ?_
        refine ex_seq ?_
        refine cw_seq ?_
        refine cw_region ?_
        refine wl_u rfl (ow_y (yh_move rfl rfl) rfl rfl (kk_wl ?_))
        refine wl_u rfl (ow_y (yh_move rfl rfl) rfl rfl (kk_wl ?_))
        obtain ⟨y19, hy19, h⟩ := bd h
        refine wl_u rfl (ow_y (yh_indexS Tb (k := s14) rfl rfl rfl rfl hy19 rfl) rfl rfl (kk_wl ?_))
        refine wl_u rfl (ow_y (yh_cmpI rfl rfl rfl rfl) rfl rfl (kk_wl ?_))
        refine wl_u rfl (ow_y (yh_move rfl rfl) rfl rfl (kk_wl ?_))
        refine wl_s rfl rfl (fun cc4 => ?_) (fun cc4 => ?_)
        · skip
          replace h := bt cc4 h
          have q6 := ltb_true.1 cc4
          refine wl_n rfl rfl rfl rfl ?_
          refine wl_n rfl rfl rfl rfl ?_
          refine wl_n rfl rfl rfl rfl ?_
          refine wl_n rfl rfl rfl rfl ?_
          refine wl_u rfl (ow_y (yh_pickT rfl rfl rfl) rfl rfl (kk_wl ?_))
          refine wl_nil ?_
          refine ex_seq ?_
          refine cw_true rfl ?_
          refine cw_seq ?_
          refine cw_region ?_
          refine wl_u rfl (ow_y (yh_assign rfl rfl) rfl rfl (kk_wl ?_))
          refine wl_nil ?_
          refine ex_seq ?_
          refine cw_ret ?_
          refine ex_block_ret ?_
          refine ex_then_ret ?_
          refine ex_then_ret ?_
          refine ex_block_ret ?_
          refine ex_then_ret ?_
          obtain rfl := Option.some.inj h
          obtain rfl := go_ret hk8
          exact ex_r1 Tb rfl (.tmp rfl) (fun wq hq => ⟨_, rfl, hq.ext, rfl⟩)
        · skip
          replace h := bf cc4 h
          have q7 := ltb_false.1 cc4
          refine wl_g rfl rfl (ow_y (yh_move rfl rfl) rfl rfl (kk_wl ?_))
          refine wl_g rfl rfl (ow_y (yh_move rfl rfl) rfl rfl (kk_wl ?_))
          obtain ⟨y24, hy24, h⟩ := bd h
          refine wl_g rfl rfl (ow_y (yh_indexS Tb (k := s14) rfl rfl rfl rfl hy24 rfl) rfl rfl (kk_wl ?_))
          refine wl_g rfl rfl (ow_y (yh_cmpI rfl rfl rfl rfl) rfl rfl (kk_wl ?_))
          refine wl_u rfl (ow_y (yh_pickF rfl rfl rfl) rfl rfl (kk_wl ?_))
          refine wl_nil ?_
          refine ex_seq ?_
          refine cw_split rfl (fun cc5 => ?_) (fun cc5 => ?_)
          · skip
            replace h := bt cc5 h
            have q8 := ltb_true.1 cc5
            refine cw_seq ?_
            refine cw_region ?_
            refine wl_u rfl (ow_y (yh_assign rfl rfl) rfl rfl (kk_wl ?_))
            refine wl_nil ?_
            refine ex_seq ?_
            refine cw_ret ?_
            refine ex_block_ret ?_
            refine ex_then_ret ?_
            refine ex_then_ret ?_
            refine ex_block_ret ?_
            refine ex_then_ret ?_
            obtain rfl := Option.some.inj h
            obtain rfl := go_ret hk8
            exact ex_r1 Tb rfl (.tmp rfl) (fun wq hq => ⟨_, rfl, hq.ext, rfl⟩)
          · skip
            replace h := bf cc5 h
            have q9 := ltb_false.1 cc5
            refine cw_skip ?_
            refine ex_block_normal ?_
            refine ex_seq ?_
            refine cw_region ?_
            refine wl_u rfl (ow_y (yh_arI rfl rfl rfl rfl (by omega)) rfl rfl (kk_wl ?_))
            refine wl_u rfl (ow_y (yh_move rfl rfl) rfl rfl (kk_wl ?_))
            refine wl_nil ?_
            exact ex_next [] (hn8 (n8, s14 + 1) (Nat.lt_succ_self _) h) ⟨rfl, rfl, rfl, trivial⟩ (by kernel_rfl)
      · skip
        replace h := bf cc3 h
        have q10 := ltb_false.1 cc3
        refine cw_exit ?_
        refine ex_then_exit ?_
        refine ex_then_exit ?_
        obtain rfl := Option.some.inj h
        have h := go_brk hk8
        refine ex_block_exit ?_
        refine ex_seq ?_
        refine cw_seq ?_
        refine cw_region ?_
        refine wl_u rfl (ow_y (yh_assign rfl rfl) rfl rfl (kk_wl ?_))
        refine wl_nil ?_
        refine ex_seq ?_
        refine cw_ret ?_
        obtain rfl := Option.some.inj h
        exact ex_r1 Tb rfl (.tmp rfl) (fun wq hq => ⟨_, rfl, hq.ext, rfl⟩)

def m_impl_eventValid (N : Nat) (e : Event) : Option (Bool) := (bif leb 1 e.kind then (bif leb e.kind 3 then (m_impl_NameValid N e.name).bind fun x14 => some x14
 else some false)
 else some false)

set_option maxHeartbeats 4000000 in
theorem c_impl_eventValid (N : Nat) (e : Event) (res : Bool) (h : m_impl_eventValid N e = some res) (w : World) : Ret Tryd.prog 38 [.agg #[.int .i64 e.kind, .string e.name]] w [] fun v w' => v = .bool res := by
  unfold m_impl_eventValid at h
  refine ret_enter Tryd.func38 rfl Tryd.ntmps38 rfl (Hp.refl w _) ?_
  refine cw_seq ?_
  refine cw_region ?_
  refine wl_u rfl (ow_boxA rfl rfl rfl rfl (fun g1 => kk_wl ?_))
  refine wl_u rfl (ow_y (yh_assign rfl rfl) rfl rfl (kk_wl ?_))
  refine wl_nil ?_
  refine ex_seq ?_
  refine cw_seq ?_
  refine cw_region ?_
  refine wl_u rfl (ow_y (yh_field Tb rfl rfl rfl) rfl rfl (kk_wl ?_))
  refine wl_u rfl (ow_y (yh_loadB Tb (k := 0) rfl rfl rfl rfl rfl) rfl rfl (kk_wl ?_))
  refine wl_u rfl (ow_y (yh_cmpI rfl rfl rfl rfl) rfl rfl (kk_wl ?_))
  refine wl_u rfl (ow_y (yh_move rfl rfl) rfl rfl (kk_wl ?_))
  refine wl_s rfl rfl (fun cc1 => ?_) (fun cc1 => ?_)
  · skip
    replace h := bt cc1 h
    have q1 := leb_true.1 cc1
    refine wl_g rfl rfl (ow_y (yh_field Tb rfl rfl rfl) rfl rfl (kk_wl ?_))
    refine wl_g rfl rfl (ow_y (yh_loadB Tb (k := 0) rfl rfl rfl rfl rfl) rfl rfl (kk_wl ?_))
    refine wl_g rfl rfl (ow_y (yh_cmpI rfl rfl rfl rfl) rfl rfl (kk_wl ?_))
    refine wl_u rfl (ow_y (yh_pickT rfl rfl rfl) rfl rfl (kk_wl ?_))
    refine wl_u rfl (ow_y (yh_move rfl rfl) rfl rfl (kk_wl ?_))
    refine wl_s rfl rfl (fun cc2 => ?_) (fun cc2 => ?_)
    · skip
      replace h := bt cc2 h
      have q2 := leb_true.1 cc2
      refine wl_g rfl rfl (ow_y (yh_field Tb rfl rfl rfl) rfl rfl (kk_wl ?_))
      refine wl_g rfl rfl (ow_y (yh_loadB Tb (k := 0) rfl rfl rfl rfl rfl) rfl rfl (kk_wl ?_))
      obtain ⟨x14, hx14, h⟩ := bd h
      refine wl_g rfl rfl (ow_cV rfl hb51 rfl (fun w hw => c_impl_NameValid N _ _ hx14 w) rfl rfl (kk_wl ?_))
      refine wl_u rfl (ow_y (yh_pickT rfl rfl rfl) rfl rfl (kk_wl ?_))
      refine wl_u rfl (ow_y (yh_assign rfl rfl) rfl rfl (kk_wl ?_))
      refine wl_nil ?_
      refine ex_seq ?_
      refine cw_ret ?_
      obtain rfl := Option.some.inj h
      exact ex_r1 Tb rfl (.tmp rfl) (fun wq hq => ⟨_, rfl, hq.ext, rfl⟩)
    · skip
      replace h := bf cc2 h
      have q3 := leb_false.1 cc2
      refine wl_n rfl rfl rfl rfl ?_
      refine wl_n rfl rfl rfl rfl ?_
      refine wl_n rfl rfl rfl rfl ?_
      refine wl_u rfl (ow_y (yh_pickF rfl rfl rfl) rfl rfl (kk_wl ?_))
      refine wl_u rfl (ow_y (yh_assign rfl rfl) rfl rfl (kk_wl ?_))
      refine wl_nil ?_
      refine ex_seq ?_
      refine cw_ret ?_
      obtain rfl := Option.some.inj h
      exact ex_r1 Tb rfl (.tmp rfl) (fun wq hq => ⟨_, rfl, hq.ext, rfl⟩)
  · skip
    replace h := bf cc1 h
    have q4 := leb_false.1 cc1
    refine wl_n rfl rfl rfl rfl ?_
    refine wl_n rfl rfl rfl rfl ?_
    refine wl_n rfl rfl rfl rfl ?_
    refine wl_u rfl (ow_y (yh_pickF rfl rfl rfl) rfl rfl (kk_wl ?_))
    refine wl_u rfl (ow_y (yh_move rfl rfl) rfl rfl (kk_wl ?_))
    refine wl_s rfl rfl nofun (fun _ => ?_)
    refine wl_n rfl rfl rfl rfl ?_
    refine wl_n rfl rfl rfl rfl ?_
    refine wl_n rfl rfl rfl rfl ?_
    refine wl_u rfl (ow_y (yh_pickF rfl rfl rfl) rfl rfl (kk_wl ?_))
    refine wl_u rfl (ow_y (yh_assign rfl rfl) rfl rfl (kk_wl ?_))
    refine wl_nil ?_
    refine ex_seq ?_
    refine cw_ret ?_
    obtain rfl := Option.some.inj h
    exact ex_r1 Tb rfl (.tmp rfl) (fun wq hq => ⟨_, rfl, hq.ext, rfl⟩)

def m_impl_EventsValid_L4 (N : Nat) (list_ : List Event) : Nat → Nat → Option (Ex (Nat) (Bool))
  | 0, _ => none
  | n + 1, s7 => (bif ltb ((s7 : Nat) : Int) ((list_.length : Nat) : Int) then (list_[s7]?).bind fun y9 => (m_impl_eventValid N y9).bind fun x12 => (bif !x12 then some (Ex.ret false)
 else m_impl_EventsValid_L4 N list_ n (s7 + 1))
 else some (Ex.brk (s7)))

def m_impl_EventsValid (N : Nat) (list_ : List Event) : Option (Bool) := (m_impl_EventsValid_L4 N list_ N 0).bind fun e4 => e4.go (fun r => r) fun b4 => some (leb ((list_.length : Nat) : Int) 20)

set_option maxHeartbeats 4000000 in
theorem c_impl_EventsValid (N : Nat) (list_ : List Event) (res : Bool) (h : m_impl_EventsValid N list_ = some res) (w : World) {a_list_ : Option Addr} {c_list_ : Nat} (h_list_ : eventsL.rd w [] [.slice a_list_ list_.length c_list_] list_) : Ret Tryd.prog 24 [.slice a_list_ list_.length c_list_] w [] fun v w' => v = .bool res := by
  have mh_list_ := rd_max h_list_
  unfold m_impl_EventsValid at h
  refine ret_enter Tryd.func24 rfl Tryd.ntmps24 rfl (Hp.refl w _) ?_
  refine cw_seq ?_
  refine cw_region ?_
  refine wl_u rfl (ow_y (yh_assign rfl rfl) rfl rfl (kk_wl ?_))
  refine wl_nil ?_
  refine ex_seq ?_
  refine cw_seq ?_
  refine cw_seq ?_
  refine cw_region ?_
  refine wl_u rfl (ow_y (yh_move rfl rfl) rfl rfl (kk_wl ?_))
  refine wl_u rfl (ow_y (yh_lenS Tb rfl rfl rfl rfl) rfl rfl (kk_wl ?_))
  refine wl_u rfl (ow_y (yh_move rfl rfl) rfl rfl (kk_wl ?_))
  refine wl_nil ?_
  refine ex_seq ?_
  refine cw_block ?_
  obtain ⟨e4, he4, hk4⟩ := bd h
  clear h
  refine cw_loopG (σ := Nat × Nat) (fun s => m_impl_EventsValid_L4 N list_ s.1 s.2 = some e4) (fun s => [(0, .slice a_list_ list_.length c_list_), (5, .slice a_list_ list_.length c_list_), (6, .int .i64 ((list_.length : Nat) : Int)), (7, .int .i64 ((s.2 : Nat) : Int))]) (fun s => []) (fun s => s.1) (N, 0) [] he4 ⟨rfl, rfl, rfl, rfl, trivial⟩ rfl (fun KL s he4 hn4 => ?_)
  obtain ⟨n4, s7⟩ := s
  simp only at he4 hn4 ⊢
  rcases n4 with _ | n4
  · exact nosome he4
  have h := he4; rw [m_impl_EventsValid_L4] at h
  refine cw_seq ?_
  refine cw_region ?_
  refine wl_u rfl (ow_y (yh_cmpI rfl rfl rfl rfl) rfl rfl (kk_wl ?_))
  refine wl_nil ?_
  refine ex_seq ?_
  refine cw_seq ?_
  refine cw_split rfl (fun cc1 => ?_) (fun cc1 => ?_)
  · skip
    replace h := bt cc1 h
    have q1 := ltb_true.1 cc1
    refine cw_skip ?_
    refine ex_seq ?_
    refine cw_seq ?_
    refine cw_block ?_
    refine cw_seq ?_
    refine cw_region ?_
    obtain ⟨y9, hy9, h⟩ := bd h
    obtain ⟨b9, o9, ha9⟩ := sl_addr h_list_ hy9
    subst ha9
    have hc9 := get_event h_list_ hy9
    refine wl_u rfl (ow_y (yh_idx Tb (k := s7) rfl rfl rfl rfl (get_lt hy9) rfl rfl) rfl rfl (kk_wl ?_))
    refine wl_u rfl (ow_y (yh_loadAN Tb rfl rfl rfl rfl hc9 rfl) rfl rfl (kk_wl ?_))
    refine wl_u rfl (ow_allocA Tb rfl rfl rfl rfl (fun g4 => kk_wl ?_))
    refine wl_u rfl (ow_storeA Tb (k := 0) rfl rfl rfl rfl rfl rfl rfl rfl rfl (kk_wl ?_))
    refine wl_nil ?_
    refine ex_seq ?_
    refine cw_seq ?_
    refine cw_region ?_
    refine wl_u rfl (ow_y (yh_loadBA Tb (k := 0) rfl rfl rfl rfl rfl rfl) rfl rfl (kk_wl ?_))
    obtain ⟨x12, hx12, h⟩ := bd h
    refine wl_u rfl (ow_cV rfl hb38 rfl (fun w hw => c_impl_eventValid N _ _ hx12 w) rfl rfl (kk_wl ?_))
    refine wl_u rfl (ow_y (yh_not rfl rfl) rfl rfl (kk_wl ?_))
    refine wl_nil ?_
    refine ex_seq ?_
    refine cw_split rfl (fun cc2 => ?_) (fun cc2 => ?_)
    · skip
      replace h := bt cc2 h
      refine cw_seq ?_
      refine cw_region ?_
      refine wl_u rfl (ow_y (yh_assign rfl rfl) rfl rfl (kk_wl ?_))
      refine wl_nil ?_
      refine ex_seq ?_
      refine cw_ret ?_
      refine ex_block_ret ?_
      refine ex_then_ret ?_
      refine ex_then_ret ?_
      refine ex_block_ret ?_
      refine ex_then_ret ?_
      obtain rfl := Option.some.inj h
      obtain rfl := go_ret hk4
      exact ex_r1 Tb rfl (.tmp rfl) (fun wq hq => ⟨_, rfl, hq.ext, rfl⟩)
    · skip
      replace h := bf cc2 h
      refine cw_skip ?_
      refine ex_block_normal ?_
      refine ex_seq ?_
      refine cw_region ?_
      refine wl_u rfl (ow_y (yh_arI rfl rfl rfl rfl (by omega)) rfl rfl (kk_wl ?_))
      refine wl_u rfl (ow_y (yh_move rfl rfl) rfl rfl (kk_wl ?_))
      refine wl_nil ?_
      exact ex_next [] (hn4 (n4, s7 + 1) (Nat.lt_succ_self _) h) ⟨rfl, rfl, rfl, rfl, trivial⟩ (by kernel_rfl)
  · skip
    replace h := bf cc1 h
    have q2 := ltb_false.1 cc1
    refine cw_exit ?_
    refine ex_then_exit ?_
    refine ex_then_exit ?_
    obtain rfl := Option.some.inj h
    have h := go_brk hk4
    refine ex_block_exit ?_
    refine ex_seq ?_
    refine cw_seq ?_
    refine cw_region ?_
    refine wl_u rfl (ow_y (yh_move rfl rfl) rfl rfl (kk_wl ?_))
    refine wl_u rfl (ow_y (yh_lenS Tb rfl rfl rfl rfl) rfl rfl (kk_wl ?_))
    refine wl_u rfl (ow_y (yh_cmpI rfl rfl rfl rfl) rfl rfl (kk_wl ?_))
    refine wl_u rfl (ow_y (yh_assign rfl rfl) rfl rfl (kk_wl ?_))
    refine wl_nil ?_
    refine ex_seq ?_
    refine cw_ret ?_
    obtain rfl := Option.some.inj h
    exact ex_r1 Tb rfl (.tmp rfl) (fun wq hq => ⟨_, rfl, hq.ext, rfl⟩)

def m_impl_checkOf_L5 (N : Nat) (text : Str) : Nat → Int → Nat → Option (Ex (Int × Nat) (Int))
  | 0, _, _ => none
  | n + 1, s3, s7 => (bif ltb ((s7 : Nat) : Int) ((text.size : Nat) : Int) then (bget text s7).bind fun y14 => m_impl_checkOf_L5 N text n (Int.tmod (w64 ((w64 (263 * s3)) + ((y14 : Nat) : Int))) 997) (s7 + 1)
 else some (Ex.brk (s3, s7)))

def m_impl_checkOf (N : Nat) (text : Str) : Option (Int) := (ssz text).bind fun z6 => (m_impl_checkOf_L5 N text N 17 0).bind fun e5 => e5.go (fun r => r) fun b5 => some b5.1

set_option maxHeartbeats 4000000 in
theorem c_impl_checkOf (N : Nat) (text : Str) (res : Int) (h : m_impl_checkOf N text = some res) (w : World) : Ret Tryd.prog 40 [.string text] w [] fun v w' => v = .int .i64 res := by
  unfold m_impl_checkOf at h
  refine ret_enter Tryd.func40 rfl Tryd.ntmps40 rfl (Hp.refl w _) ?_
  refine cw_seq ?_
  refine cw_region ?_
  refine wl_u rfl (ow_y (yh_assign rfl rfl) rfl rfl (kk_wl ?_))
  refine wl_nil ?_
  refine ex_seq ?_
  refine cw_seq ?_
  refine cw_region ?_
  refine wl_u rfl (ow_y (yh_assign rfl rfl) rfl rfl (kk_wl ?_))
  refine wl_nil ?_
  refine ex_seq ?_
  refine cw_seq ?_
  refine cw_seq ?_
  refine cw_region ?_
  refine wl_u rfl (ow_y (yh_move rfl rfl) rfl rfl (kk_wl ?_))
  obtain ⟨z6, hz6, h⟩ := bd h
  have mz6 := ssz_some hz6
  refine wl_u rfl (ow_y (yh_lenT Tb rfl rfl rfl rfl) rfl rfl (kk_wl ?_))
  refine wl_u rfl (ow_y (yh_move rfl rfl) rfl rfl (kk_wl ?_))
  refine wl_nil ?_
  refine ex_seq ?_
  refine cw_block ?_
  obtain ⟨e5, he5, hk5⟩ := bd h
  clear h
  refine cw_loopG (σ := Nat × Int × Nat) (fun s => m_impl_checkOf_L5 N text s.1 s.2.1 s.2.2 = some e5) (fun s => [(0, .string text), (3, .int .i64 s.2.1), (6, .int .i64 ((text.size : Nat) : Int)), (7, .int .i64 ((s.2.2 : Nat) : Int))]) (fun s => []) (fun s => s.1) (N, 17, 0) [] he5 ⟨rfl, rfl, rfl, rfl, trivial⟩ rfl (fun KL s he5 hn5 => ?_)
  obtain ⟨n5, s3, s7⟩ := s
  simp only at he5 hn5 ⊢
  rcases n5 with _ | n5
  · exact nosome he5
  have h := he5; rw [m_impl_checkOf_L5] at h
  refine cw_seq ?_
  refine cw_region ?_
  refine wl_u rfl (ow_y (yh_cmpI rfl rfl rfl rfl) rfl rfl (kk_wl ?_))
  refine wl_nil ?_
  refine ex_seq ?_
  refine cw_seq ?_
  refine cw_split rfl (fun cc1 => ?_) (fun cc1 => ?_)
  · skip
    replace h := bt cc1 h
    have q1 := ltb_true.1 cc1
    refine cw_skip ?_
    refine ex_seq ?_
    refine cw_seq ?_
    refine cw_block ?_
    refine cw_seq ?_
    refine cw_region ?_
    refine wl_u rfl (ow_y (yh_move rfl rfl) rfl rfl (kk_wl ?_))
    refine wl_u rfl (ow_y (yh_assign rfl rfl) rfl rfl (kk_wl ?_))
    refine wl_nil ?_
    refine ex_seq ?_
    refine cw_region ?_
    refine wl_u rfl (ow_y (yh_move rfl rfl) rfl rfl (kk_wl ?_))
    refine wl_u rfl (ow_y (yh_arW rfl rfl rfl rfl) rfl rfl (kk_wl ?_))
    refine wl_u rfl (ow_y (yh_move rfl rfl) rfl rfl (kk_wl ?_))
    refine wl_u rfl (ow_y (yh_move rfl rfl) rfl rfl (kk_wl ?_))
    obtain ⟨y14, hy14, h⟩ := bd h
    refine wl_u rfl (ow_y (yh_indexS Tb (k := s7) rfl rfl rfl rfl hy14 rfl) rfl rfl (kk_wl ?_))
    refine wl_u rfl (ow_y (yh_conv rfl rfl (by kernel_rfl) (by first | omega | exact bget_fit hy14)) rfl rfl (kk_wl ?_))
    refine wl_u rfl (ow_y (yh_arW rfl rfl rfl rfl) rfl rfl (kk_wl ?_))
    refine wl_u rfl (ow_y (yh_remT rfl rfl rfl (by decide)) rfl rfl (kk_wl ?_))
    refine wl_u rfl (ow_y (yh_assign rfl rfl) rfl rfl (kk_wl ?_))
    refine wl_nil ?_
    refine ex_block_normal ?_
    refine ex_seq ?_
    refine cw_region ?_
    refine wl_u rfl (ow_y (yh_arI rfl rfl rfl rfl (by omega)) rfl rfl (kk_wl ?_))
    refine wl_u rfl (ow_y (yh_move rfl rfl) rfl rfl (kk_wl ?_))
    refine wl_nil ?_
    exact ex_next [] (hn5 (n5, Int.tmod (w64 ((w64 (263 * s3)) + ((y14 : Nat) : Int))) 997, s7 + 1) (Nat.lt_succ_self _) h) ⟨rfl, rfl, rfl, rfl, trivial⟩ (by kernel_rfl)
  · skip
    replace h := bf cc1 h
    have q2 := ltb_false.1 cc1
    refine cw_exit ?_
    refine ex_then_exit ?_
    refine ex_then_exit ?_
    obtain rfl := Option.some.inj h
    have h := go_brk hk5
    refine ex_block_exit ?_
    refine ex_seq ?_
    refine cw_seq ?_
    refine cw_region ?_
    refine wl_u rfl (ow_y (yh_move rfl rfl) rfl rfl (kk_wl ?_))
    refine wl_u rfl (ow_y (yh_assign rfl rfl) rfl rfl (kk_wl ?_))
    refine wl_nil ?_
    refine ex_seq ?_
    refine cw_ret ?_
    obtain rfl := Option.some.inj h
    exact ex_r1 Tb rfl (.tmp rfl) (fun wq hq => ⟨_, rfl, hq.ext, rfl⟩)

def m_impl_EventText (N : Nat) (number : Int) (e : Event) : Option (Str) := (bif ltb number 1 then some (⟨#[]⟩ : Str)
 else (bif ltb 20 number then some (⟨#[]⟩ : Str)
 else (m_impl_eventValid N e).bind fun x14 => (bif !x14 then some (⟨#[]⟩ : Str)
 else (geti evWords e.kind).bind fun y23 => (m_strconv_Itoa N number).bind fun x18 => (cat x18 (⟨#[32]⟩ : Str)).bind fun t19_ => (cat t19_ y23).bind fun t25_ => (cat t25_ (⟨#[32]⟩ : Str)).bind fun t26_ => (cat t26_ e.name).bind fun t29_ => (cat t29_ (⟨#[32]⟩ : Str)).bind fun t31_ => (m_impl_checkOf N t29_).bind fun x33 => (m_strconv_Itoa N x33).bind fun x34 => (cat t31_ x34).bind fun t35_ => some t35_)))

set_option maxHeartbeats 4000000 in
theorem c_impl_EventText (N : Nat) (number : Int) (e : Event) (res : Str) (h : m_impl_EventText N number e = some res) (w : World) (hG : globL.rd w [] [] ()) : Ret Tryd.prog 20 [.int .i64 number, .agg #[.int .i64 e.kind, .string e.name]] w [] fun v w' => v = .string res := by
  obtain ⟨a_ew, c_ew, hg_ew, hw_ew⟩ := glob_ew hG
  have mhw_ew := rd_max hw_ew
  unfold m_impl_EventText at h
  refine ret_enter Tryd.func20 rfl Tryd.ntmps20 rfl (Hp.refl w _) ?_
  refine cw_seq ?_
  refine cw_region ?_
  refine wl_u rfl (ow_boxA rfl rfl rfl rfl (fun g3 => kk_wl ?_))
  refine wl_u rfl (ow_y (yh_assign rfl rfl) rfl rfl (kk_wl ?_))
  refine wl_nil ?_
  refine ex_seq ?_
  refine cw_seq ?_
  refine cw_seq ?_
  refine cw_region ?_
  refine wl_u rfl (ow_y (yh_move rfl rfl) rfl rfl (kk_wl ?_))
  refine wl_u rfl (ow_y (yh_cmpI rfl rfl rfl rfl) rfl rfl (kk_wl ?_))
  refine wl_u rfl (ow_y (yh_move rfl rfl) rfl rfl (kk_wl ?_))
  refine wl_s rfl rfl (fun cc1 => ?_) (fun cc1 => ?_)
  · skip
    replace h := bt cc1 h
    have q1 := ltb_true.1 cc1
    refine wl_n rfl rfl rfl rfl ?_
    refine wl_n rfl rfl rfl rfl ?_
    refine wl_u rfl (ow_y (yh_pickT rfl rfl rfl) rfl rfl (kk_wl ?_))
    refine wl_u rfl (ow_y (yh_move rfl rfl) rfl rfl (kk_wl ?_))
    refine wl_s rfl rfl (fun _ => ?_) nofun
    refine wl_n rfl rfl rfl rfl ?_
    refine wl_n rfl rfl rfl rfl ?_
    refine wl_n rfl rfl rfl rfl ?_
    refine wl_u rfl (ow_y (yh_pickT rfl rfl rfl) rfl rfl (kk_wl ?_))
    refine wl_nil ?_
    refine ex_seq ?_
    refine cw_true rfl ?_
    refine cw_seq ?_
    refine cw_region ?_
    refine wl_u rfl (ow_y (yh_assign rfl rfl) rfl rfl (kk_wl ?_))
    refine wl_nil ?_
    refine ex_seq ?_
    refine cw_ret ?_
    refine ex_then_ret ?_
    obtain rfl := Option.some.inj h
    exact ex_r1 Tb rfl (.tmp rfl) (fun wq hq => ⟨_, rfl, hq.ext, rfl⟩)
  · skip
    replace h := bf cc1 h
    have q2 := ltb_false.1 cc1
    refine wl_g rfl rfl (ow_y (yh_move rfl rfl) rfl rfl (kk_wl ?_))
    refine wl_g rfl rfl (ow_y (yh_cmpI rfl rfl rfl rfl) rfl rfl (kk_wl ?_))
    refine wl_u rfl (ow_y (yh_pickF rfl rfl rfl) rfl rfl (kk_wl ?_))
    refine wl_u rfl (ow_y (yh_move rfl rfl) rfl rfl (kk_wl ?_))
    refine wl_s rfl rfl (fun cc2 => ?_) (fun cc2 => ?_)
    · skip
      replace h := bt cc2 h
      have q3 := ltb_true.1 cc2
      refine wl_n rfl rfl rfl rfl ?_
      refine wl_n rfl rfl rfl rfl ?_
      refine wl_n rfl rfl rfl rfl ?_
      refine wl_u rfl (ow_y (yh_pickT rfl rfl rfl) rfl rfl (kk_wl ?_))
      refine wl_nil ?_
      refine ex_seq ?_
      refine cw_true rfl ?_
      refine cw_seq ?_
      refine cw_region ?_
      refine wl_u rfl (ow_y (yh_assign rfl rfl) rfl rfl (kk_wl ?_))
      refine wl_nil ?_
      refine ex_seq ?_
      refine cw_ret ?_
      refine ex_then_ret ?_
      obtain rfl := Option.some.inj h
      exact ex_r1 Tb rfl (.tmp rfl) (fun wq hq => ⟨_, rfl, hq.ext, rfl⟩)
    · skip
      replace h := bf cc2 h
      have q4 := ltb_false.1 cc2
      refine wl_g rfl rfl (ow_y (yh_loadBA Tb (k := 0) rfl rfl rfl rfl rfl rfl) rfl rfl (kk_wl ?_))
      obtain ⟨x14, hx14, h⟩ := bd h
      refine wl_g rfl rfl (ow_cV rfl hb38 rfl (fun w hw => c_impl_eventValid N _ _ hx14 w) rfl rfl (kk_wl ?_))
      refine wl_g rfl rfl (ow_y (yh_not rfl rfl) rfl rfl (kk_wl ?_))
      refine wl_u rfl (ow_y (yh_pickF rfl rfl rfl) rfl rfl (kk_wl ?_))
      refine wl_nil ?_
      refine ex_seq ?_
      refine cw_split rfl (fun cc3 => ?_) (fun cc3 => ?_)
      · skip
        replace h := bt cc3 h
        refine cw_seq ?_
        refine cw_region ?_
        refine wl_u rfl (ow_y (yh_assign rfl rfl) rfl rfl (kk_wl ?_))
        refine wl_nil ?_
        refine ex_seq ?_
        refine cw_ret ?_
        refine ex_then_ret ?_
        obtain rfl := Option.some.inj h
        exact ex_r1 Tb rfl (.tmp rfl) (fun wq hq => ⟨_, rfl, hq.ext, rfl⟩)
      · skip
        replace h := bf cc3 h
        refine cw_skip ?_
        refine ex_seq ?_
        refine cw_seq ?_
        refine cw_dr [0, 2, 3, 4, 5, 6, 7, 8, 9, 10, 11, 12, 13] [] [blkC g3 35 [.int .i64 e.kind, .string e.name]] (by kernel_rfl) ?_
        refine wd_take (i := 0) [0] rfl rfl rfl rfl rfl (by kernel_rfl) (by kernel_rfl) (fun _ _ _ _ h => h) (yh_move rfl rfl) ?_
        refine wd_take (i := 3) [0] rfl rfl rfl rfl rfl (by kernel_rfl) (by kernel_rfl) (fun _ _ _ _ h => h) (yh_loadA0 Tb rfl rfl rfl hg_ew rfl) ?_
        refine wd_take (i := 4) [0] rfl rfl rfl rfl rfl (by kernel_rfl) (by kernel_rfl) (fun _ _ _ _ h => h) (yh_field Tb rfl rfl rfl) ?_
        refine wd_take (i := 5) [0] rfl rfl rfl rfl rfl (by kernel_rfl) (by kernel_rfl) (fun _ _ _ _ h => h) (yh_loadB Tb (k := 0) rfl rfl rfl rfl rfl) ?_
        obtain ⟨y23, zy23, h⟩ := bd h
        obtain ⟨iy23, hy23⟩ := geti_some zy23
        obtain ⟨b23, o23, ha23⟩ := sl_addr hw_ew hy23
        subst ha23
        have hc23 := get_str hw_ew hy23
        refine wd_take (i := 6) [0] rfl rfl rfl rfl rfl (by kernel_rfl) (by kernel_rfl) (fun _ _ _ _ h => h) (yh_idx Tb (k := e.kind.toNat) rfl rfl rfl iy23 (get_lt hy23) rfl rfl) ?_
        refine wd_take (i := 7) [0] rfl rfl rfl rfl rfl (by kernel_rfl) (by kernel_rfl) (fun _ _ _ _ h => h) (yh_loadA0 Tb rfl rfl rfl hc23 rfl) ?_
        refine wd_take (i := 10) [0] rfl rfl rfl rfl rfl (by kernel_rfl) (by kernel_rfl) (fun _ _ _ _ h => h) (yh_field Tb rfl rfl rfl) ?_
        refine wd_take (i := 11) [0] rfl rfl rfl rfl rfl (by kernel_rfl) (by kernel_rfl) (fun _ _ _ _ h => h) (yh_loadB Tb (k := 0) rfl rfl rfl rfl rfl) ?_
        obtain ⟨x18, hx18, h⟩ := bd h
        refine wd_one 1 rfl rfl (by kernel_rfl) (ow_cV rfl hb39 rfl (fun w hw => c_strconv_Itoa N _ _ hx18 w (Lay.at_ hG hw)) rfl rfl (kk_wd [0] (by kernel_rfl) ?_))
        obtain ⟨t19_, zt19_, h⟩ := bd h
        refine wd_take (i := 2) [0] rfl rfl rfl rfl rfl (by kernel_rfl) (by kernel_rfl) (fun _ _ _ _ h => h) (yh_addS zt19_ rfl rfl rfl) ?_
        obtain ⟨t25_, zt25_, h⟩ := bd h
        refine wd_take (i := 8) [0] rfl rfl rfl rfl rfl (by kernel_rfl) (by kernel_rfl) (fun _ _ _ _ h => h) (yh_addS zt25_ rfl rfl rfl) ?_
        obtain ⟨t26_, zt26_, h⟩ := bd h
        refine wd_take (i := 9) [0] rfl rfl rfl rfl rfl (by kernel_rfl) (by kernel_rfl) (fun _ _ _ _ h => h) (yh_addS zt26_ rfl rfl rfl) ?_
        obtain ⟨t29_, zt29_, h⟩ := bd h
        refine wd_take (i := 12) [0] rfl rfl rfl rfl rfl (by kernel_rfl) (by kernel_rfl) (fun _ _ _ _ h => h) (yh_addS zt29_ rfl rfl rfl) ?_
        refine wd_take (i := 13) [0] rfl rfl rfl rfl rfl (by kernel_rfl) (by kernel_rfl) (fun _ _ _ _ h => h) (yh_assign rfl rfl) ?_
        refine wd_done (by kernel_rfl) ?_
        refine ex_seq ?_
        refine cw_seq ?_
        refine cw_region ?_
        refine wl_u rfl (ow_y (yh_move rfl rfl) rfl rfl (kk_wl ?_))
        obtain ⟨t31_, zt31_, h⟩ := bd h
        refine wl_u rfl (ow_y (yh_addS zt31_ rfl rfl rfl) rfl rfl (kk_wl ?_))
        refine wl_u rfl (ow_y (yh_move rfl rfl) rfl rfl (kk_wl ?_))
        obtain ⟨x33, hx33, h⟩ := bd h
        refine wl_u rfl (ow_cV rfl hb40 rfl (fun w hw => c_impl_checkOf N _ _ hx33 w) rfl rfl (kk_wl ?_))
        obtain ⟨x34, hx34, h⟩ := bd h
        refine wl_u rfl (ow_cV rfl hb39 rfl (fun w hw => c_strconv_Itoa N _ _ hx34 w (Lay.at_ hG hw)) rfl rfl (kk_wl ?_))
        obtain ⟨t35_, zt35_, h⟩ := bd h
        refine wl_u rfl (ow_y (yh_addS zt35_ rfl rfl rfl) rfl rfl (kk_wl ?_))
        refine wl_u rfl (ow_y (yh_assign rfl rfl) rfl rfl (kk_wl ?_))
        refine wl_nil ?_
        refine ex_seq ?_
        refine cw_ret ?_
        obtain rfl := Option.some.inj h
        exact ex_r1 Tb rfl (.tmp rfl) (fun wq hq => ⟨_, rfl, hq.ext, rfl⟩)

def m_impl_JournalText_L8 (N : Nat) (list_ : List Event) : Nat → Str → Nat → Option (Ex (Str × Nat) (Str))
  | 0, _, _ => none
  | n + 1, s3, s11 => (bif ltb ((s11 : Nat) : Int) ((list_.length : Nat) : Int) then (list_[s11]?).bind fun y14 => (m_impl_EventText N (((s11 : Nat) : Int) + 1) y14).bind fun x19 => (cat x19 (⟨#[10]⟩ : Str)).bind fun t20_ => (bcat s3 t20_).bind fun x21 => m_impl_JournalText_L8 N list_ n x21 (s11 + 1)
 else some (Ex.brk (s3, s11)))

def m_impl_JournalText (N : Nat) (list_ : List Event) : Option (Str) := (m_impl_EventsValid N list_).bind fun x7 => (bif !x7 then some (⟨#[]⟩ : Str)
 else (m_impl_JournalText_L8 N list_ N (⟨#[]⟩ : Str) 0).bind fun e8 => e8.go (fun r => r) fun b8 => some b8.1)

set_option maxHeartbeats 4000000 in
theorem c_impl_JournalText (N : Nat) (list_ : List Event) (res : Str) (h : m_impl_JournalText N list_ = some res) (w : World) {a_list_ : Option Addr} {c_list_ : Nat} (hG : globL.rd w [] [] ()) (h_list_ : eventsL.rd w [] [.slice a_list_ list_.length c_list_] list_) : Ret Tryd.prog 10 [.slice a_list_ list_.length c_list_] w [] fun v w' => v = .string res := by
  have mh_list_ := rd_max h_list_
  unfold m_impl_JournalText at h
  refine ret_enter Tryd.func10 rfl Tryd.ntmps10 rfl (Hp.refl w _) ?_
  refine cw_seq ?_
  refine cw_region ?_
  refine wl_u rfl (ow_y (yh_assign rfl rfl) rfl rfl (kk_wl ?_))
  refine wl_nil ?_
  refine ex_seq ?_
  refine cw_seq ?_
  refine cw_seq ?_
  refine cw_region ?_
  refine wl_u rfl (ow_y (yh_move rfl rfl) rfl rfl (kk_wl ?_))
  obtain ⟨x7, hx7, h⟩ := bd h
  refine wl_u rfl (ow_cV rfl hb24 rfl (fun w hw => c_impl_EventsValid N _ _ hx7 w (Lay.at_ h_list_ hw)) rfl rfl (kk_wl ?_))
  refine wl_u rfl (ow_y (yh_not rfl rfl) rfl rfl (kk_wl ?_))
  refine wl_nil ?_
  refine ex_seq ?_
  refine cw_split rfl (fun cc1 => ?_) (fun cc1 => ?_)
  · skip
    replace h := bt cc1 h
    refine cw_seq ?_
    refine cw_region ?_
    refine wl_u rfl (ow_y (yh_assign rfl rfl) rfl rfl (kk_wl ?_))
    refine wl_nil ?_
    refine ex_seq ?_
    refine cw_ret ?_
    refine ex_then_ret ?_
    obtain rfl := Option.some.inj h
    exact ex_r1 Tb rfl (.tmp rfl) (fun wq hq => ⟨_, rfl, hq.ext, rfl⟩)
  · skip
    replace h := bf cc1 h
    refine cw_skip ?_
    refine ex_seq ?_
    refine cw_seq ?_
    refine cw_region ?_
    refine wl_u rfl (ow_allocA Tb rfl rfl rfl rfl (fun g3 => kk_chg (c' := bldC g3 [g3] (⟨#[]⟩ : Str)) 0 rfl (fun w hA => bld_new hA) rfl (kk_wl ?_)))
    refine wl_nil ?_
    refine ex_seq ?_
    refine cw_seq ?_
    refine cw_seq ?_
    refine cw_region ?_
    refine wl_u rfl (ow_y (yh_move rfl rfl) rfl rfl (kk_wl ?_))
    refine wl_u rfl (ow_y (yh_lenS Tb rfl rfl rfl rfl) rfl rfl (kk_wl ?_))
    refine wl_u rfl (ow_y (yh_move rfl rfl) rfl rfl (kk_wl ?_))
    refine wl_nil ?_
    refine ex_seq ?_
    refine cw_block ?_
    obtain ⟨e8, he8, hk8⟩ := bd h
    clear h
    refine cw_loopG (σ := Nat × Str × Nat × (List Nat)) (fun s => m_impl_JournalText_L8 N list_ s.1 s.2.1 s.2.2.1 = some e8) (fun s => [(3, .pointer (some ⟨g3, 0, none⟩)), (9, .slice a_list_ list_.length c_list_), (10, .int .i64 ((list_.length : Nat) : Int)), (11, .int .i64 ((s.2.2.1 : Nat) : Int))]) (fun s => [bldC g3 s.2.2.2 s.2.1]) (fun s => s.1) (N, (⟨#[]⟩ : Str), 0, [g3]) [0] he8 ⟨rfl, rfl, rfl, rfl, trivial⟩ rfl (fun KL s he8 hn8 => ?_)
    obtain ⟨n8, s3, s11, Fs3⟩ := s
    simp only at he8 hn8 ⊢
    rcases n8 with _ | n8
    · exact nosome he8
    have h := he8; rw [m_impl_JournalText_L8] at h
    refine cw_seq ?_
    refine cw_region ?_
    refine wl_u rfl (ow_y (yh_cmpI rfl rfl rfl rfl) rfl rfl (kk_wl ?_))
    refine wl_nil ?_
    refine ex_seq ?_
    refine cw_seq ?_
    refine cw_split rfl (fun cc2 => ?_) (fun cc2 => ?_)
    · skip
      replace h := bt cc2 h
      have q1 := ltb_true.1 cc2
      refine cw_skip ?_
      refine ex_seq ?_
      refine cw_seq ?_
      refine cw_block ?_
      refine cw_seq ?_
      refine cw_region ?_
      refine wl_u rfl (ow_y (yh_move rfl rfl) rfl rfl (kk_wl ?_))
      obtain ⟨y14, hy14, h⟩ := bd h
      obtain ⟨b14, o14, ha14⟩ := sl_addr h_list_ hy14
      subst ha14
      have hc14 := get_event h_list_ hy14
      refine wl_u rfl (ow_y (yh_idx Tb (k := s11) rfl rfl rfl rfl (get_lt hy14) rfl rfl) rfl rfl (kk_wl ?_))
      refine wl_u rfl (ow_y (yh_loadAN Tb rfl rfl rfl rfl hc14 rfl) rfl rfl (kk_wl ?_))
      refine wl_u rfl (ow_allocA Tb rfl rfl rfl rfl (fun g5 => kk_wl ?_))
      refine wl_u rfl (ow_y (yh_assign rfl rfl) rfl rfl (kk_wl ?_))
      refine wl_u rfl (ow_storeA Tb (k := 0) rfl rfl rfl rfl rfl rfl rfl rfl rfl (kk_wl ?_))
      refine wl_nil ?_
      refine ex_seq ?_
      refine cw_region ?_
      refine wl_u rfl (ow_y (yh_move rfl rfl) rfl rfl (kk_wl ?_))
      refine wl_u rfl (ow_y (yh_arI rfl rfl rfl rfl (by omega)) rfl rfl (kk_wl ?_))
      refine wl_u rfl (ow_y (yh_loadBA Tb (k := 0) rfl rfl rfl rfl rfl rfl) rfl rfl (kk_wl ?_))
      obtain ⟨x19, hx19, h⟩ := bd h
      refine wl_u rfl (ow_cV rfl hb20 rfl (fun w hw => c_impl_EventText N _ _ _ hx19 w (Lay.at_ hG hw)) rfl rfl (kk_wl ?_))
      obtain ⟨t20_, zt20_, h⟩ := bd h
      refine wl_u rfl (ow_y (yh_addS zt20_ rfl rfl rfl) rfl rfl (kk_wl ?_))
      obtain ⟨x21, hx21, h⟩ := bd h
      refine wl_u rfl (ow_bldW 1 rfl hb25 rfl rfl hx21 rfl rfl (fun F21 => kk_wl ?_))
      refine wl_nil ?_
      refine ex_block_normal ?_
      refine ex_seq ?_
      refine cw_region ?_
      refine wl_u rfl (ow_y (yh_arI rfl rfl rfl rfl (by omega)) rfl rfl (kk_wl ?_))
      refine wl_u rfl (ow_y (yh_move rfl rfl) rfl rfl (kk_wl ?_))
      refine wl_nil ?_
      exact ex_next [0] (hn8 (n8, x21, s11 + 1, F21) (Nat.lt_succ_self _) h) ⟨rfl, rfl, rfl, rfl, trivial⟩ (by kernel_rfl)
    · skip
      replace h := bf cc2 h
      have q2 := ltb_false.1 cc2
      refine cw_exit ?_
      refine ex_then_exit ?_
      refine ex_then_exit ?_
      obtain rfl := Option.some.inj h
      have h := go_brk hk8
      refine ex_block_exit ?_
      refine ex_seq ?_
      refine cw_seq ?_
      refine cw_region ?_
      refine wl_u rfl (ow_bldS 0 rfl hb26 rfl rfl rfl rfl (fun F23 => kk_wl ?_))
      refine wl_u rfl (ow_y (yh_assign rfl rfl) rfl rfl (kk_wl ?_))
      refine wl_nil ?_
      refine ex_seq ?_
      refine cw_ret ?_
      obtain rfl := Option.some.inj h
      exact ex_r1 Tb rfl (.tmp rfl) (fun wq hq => ⟨_, rfl, hq.ext, rfl⟩)

def m_spec_l6In (N : Nat) (n_ : Int) (low : Int) (high : Int) : Option (Bool) := (bif leb low n_ then some (leb n_ high)
 else some false)

set_option maxHeartbeats 4000000 in
theorem c_spec_l6In (N : Nat) (n_ : Int) (low : Int) (high : Int) (res : Bool) (h : m_spec_l6In N n_ low high = some res) (w : World) : Ret Tryd.prog 28 [.int .i64 n_, .int .i64 low, .int .i64 high] w [] fun v w' => v = .bool res := by
  unfold m_spec_l6In at h
  refine ret_enter Tryd.func28 rfl Tryd.ntmps28 rfl (Hp.refl w _) ?_
  refine cw_seq ?_
  refine cw_region ?_
  refine wl_u rfl (ow_y (yh_assign rfl rfl) rfl rfl (kk_wl ?_))
  refine wl_nil ?_
  refine ex_seq ?_
  refine cw_seq ?_
  refine cw_region ?_
  refine wl_u rfl (ow_y (yh_move rfl rfl) rfl rfl (kk_wl ?_))
  refine wl_u rfl (ow_y (yh_move rfl rfl) rfl rfl (kk_wl ?_))
  refine wl_u rfl (ow_y (yh_cmpI rfl rfl rfl rfl) rfl rfl (kk_wl ?_))
  refine wl_u rfl (ow_y (yh_move rfl rfl) rfl rfl (kk_wl ?_))
  refine wl_s rfl rfl (fun cc1 => ?_) (fun cc1 => ?_)
  · skip
    replace h := bt cc1 h
    have q1 := leb_true.1 cc1
    refine wl_g rfl rfl (ow_y (yh_move rfl rfl) rfl rfl (kk_wl ?_))
    refine wl_g rfl rfl (ow_y (yh_move rfl rfl) rfl rfl (kk_wl ?_))
    refine wl_g rfl rfl (ow_y (yh_cmpI rfl rfl rfl rfl) rfl rfl (kk_wl ?_))
    refine wl_u rfl (ow_y (yh_pickT rfl rfl rfl) rfl rfl (kk_wl ?_))
    refine wl_u rfl (ow_y (yh_assign rfl rfl) rfl rfl (kk_wl ?_))
    refine wl_nil ?_
    refine ex_seq ?_
    refine cw_ret ?_
    obtain rfl := Option.some.inj h
    exact ex_r1 Tb rfl (.tmp rfl) (fun wq hq => ⟨_, rfl, hq.ext, rfl⟩)
  · skip
    replace h := bf cc1 h
    have q2 := leb_false.1 cc1
    refine wl_n rfl rfl rfl rfl ?_
    refine wl_n rfl rfl rfl rfl ?_
    refine wl_n rfl rfl rfl rfl ?_
    refine wl_u rfl (ow_y (yh_pickF rfl rfl rfl) rfl rfl (kk_wl ?_))
    refine wl_u rfl (ow_y (yh_assign rfl rfl) rfl rfl (kk_wl ?_))
    refine wl_nil ?_
    refine ex_seq ?_
    refine cw_ret ?_
    obtain rfl := Option.some.inj h
    exact ex_r1 Tb rfl (.tmp rfl) (fun wq hq => ⟨_, rfl, hq.ext, rfl⟩)

def m_spec_NameValid_L4 (N : Nat) (s_ : Str) : Nat → Nat → Option (Ex (Nat) (Bool))
  | 0, _ => none
  | n + 1, s3 => (ssz s_).bind fun z6 => (bif ltb ((s3 : Nat) : Int) ((s_.size : Nat) : Int) then (bget s_ s3).bind fun y12 => (bif ltb ((y12 : Nat) : Int) 97 then some (Ex.ret false)
 else (bget s_ s3).bind fun y17 => (bif ltb 122 ((y17 : Nat) : Int) then some (Ex.ret false)
 else m_spec_NameValid_L4 N s_ n (s3 + 1)))
 else some (Ex.brk (s3)))

def m_spec_NameValid (N : Nat) (s_ : Str) : Option (Bool) := (m_spec_NameValid_L4 N s_ N 0).bind fun e4 => e4.go (fun r => r) fun b4 => (m_spec_l6In N ((s_.size : Nat) : Int) 1 5).bind fun x22 => some x22

set_option maxHeartbeats 4000000 in
theorem c_spec_NameValid (N : Nat) (s_ : Str) (res : Bool) (h : m_spec_NameValid N s_ = some res) (w : World) : Ret Tryd.prog 29 [.string s_] w [] fun v w' => v = .bool res := by
  unfold m_spec_NameValid at h
  refine ret_enter Tryd.func29 rfl Tryd.ntmps29 rfl (Hp.refl w _) ?_
  refine cw_seq ?_
  refine cw_region ?_
  refine wl_u rfl (ow_y (yh_assign rfl rfl) rfl rfl (kk_wl ?_))
  refine wl_nil ?_
  refine ex_seq ?_
  refine cw_seq ?_
  refine cw_seq ?_
  refine cw_region ?_
  refine wl_u rfl (ow_y (yh_assign rfl rfl) rfl rfl (kk_wl ?_))
  refine wl_nil ?_
  refine ex_seq ?_
  refine cw_block ?_
  obtain ⟨e4, he4, hk4⟩ := bd h
  clear h
  refine cw_loopG (σ := Nat × Nat) (fun s => m_spec_NameValid_L4 N s_ s.1 s.2 = some e4) (fun s => [(0, .string s_), (3, .int .i64 ((s.2 : Nat) : Int))]) (fun s => []) (fun s => s.1) (N, 0) [] he4 ⟨rfl, rfl, trivial⟩ rfl (fun KL s he4 hn4 => ?_)
  obtain ⟨n4, s3⟩ := s
  simp only at he4 hn4 ⊢
  rcases n4 with _ | n4
  · exact nosome he4
  have h := he4; rw [m_spec_NameValid_L4] at h
  refine cw_seq ?_
  refine cw_seq ?_
  refine cw_region ?_
  refine wl_u rfl (ow_y (yh_move rfl rfl) rfl rfl (kk_wl ?_))
  refine wl_u rfl (ow_y (yh_move rfl rfl) rfl rfl (kk_wl ?_))
  obtain ⟨z6, hz6, h⟩ := bd h
  have mz6 := ssz_some hz6
  refine wl_u rfl (ow_y (yh_lenT Tb rfl rfl rfl rfl) rfl rfl (kk_wl ?_))
  refine wl_u rfl (ow_y (yh_cmpI rfl rfl rfl rfl) rfl rfl (kk_wl ?_))
  refine wl_nil ?_
  refine ex_seq ?_
  refine cw_split rfl (fun cc1 => ?_) (fun cc1 => ?_)
  · skip
    replace h := bt cc1 h
    have q1 := ltb_true.1 cc1
    refine cw_skip ?_
    refine ex_seq ?_
    refine cw_seq ?_
    refine cw_block ?_
    refine cw_seq ?_
    refine cw_region ?_
    refine wl_u rfl (ow_y (yh_move rfl rfl) rfl rfl (kk_wl ?_))
    refine wl_u rfl (ow_y (yh_move rfl rfl) rfl rfl (kk_wl ?_))
    obtain ⟨y12, hy12, h⟩ := bd h
    refine wl_u rfl (ow_y (yh_indexS Tb (k := s3) rfl rfl rfl rfl hy12 rfl) rfl rfl (kk_wl ?_))
    refine wl_u rfl (ow_y (yh_cmpI rfl rfl rfl rfl) rfl rfl (kk_wl ?_))
    refine wl_u rfl (ow_y (yh_move rfl rfl) rfl rfl (kk_wl ?_))
    refine wl_s rfl rfl (fun cc2 => ?_) (fun cc2 => ?_)
    · skip
      replace h := bt cc2 h
      have q2 := ltb_true.1 cc2
      refine wl_n rfl rfl rfl rfl ?_
      refine wl_n rfl rfl rfl rfl ?_
      refine wl_n rfl rfl rfl rfl ?_
      refine wl_n rfl rfl rfl rfl ?_
      refine wl_u rfl (ow_y (yh_pickT rfl rfl rfl) rfl rfl (kk_wl ?_))
      refine wl_nil ?_
      refine ex_seq ?_
      refine cw_true rfl ?_
      refine cw_seq ?_
      refine cw_region ?_
      refine wl_u rfl (ow_y (yh_assign rfl rfl) rfl rfl (kk_wl ?_))
      refine wl_nil ?_
      refine ex_seq ?_
      refine cw_ret ?_
      refine ex_block_ret ?_
      refine ex_then_ret ?_
      refine ex_then_ret ?_
      refine ex_block_ret ?_
      refine ex_then_ret ?_
      obtain rfl := Option.some.inj h
      obtain rfl := go_ret hk4
      exact ex_r1 Tb rfl (.tmp rfl) (fun wq hq => ⟨_, rfl, hq.ext, rfl⟩)
    · skip
      replace h := bf cc2 h
      have q3 := ltb_false.1 cc2
      refine wl_g rfl rfl (ow_y (yh_move rfl rfl) rfl rfl (kk_wl ?_))
      refine wl_g rfl rfl (ow_y (yh_move rfl rfl) rfl rfl (kk_wl ?_))
      obtain ⟨y17, hy17, h⟩ := bd h
      refine wl_g rfl rfl (ow_y (yh_indexS Tb (k := s3) rfl rfl rfl rfl hy17 rfl) rfl rfl (kk_wl ?_))
      refine wl_g rfl rfl (ow_y (yh_cmpI rfl rfl rfl rfl) rfl rfl (kk_wl ?_))
      refine wl_u rfl (ow_y (yh_pickF rfl rfl rfl) rfl rfl (kk_wl ?_))
      refine wl_nil ?_
      refine ex_seq ?_
      refine cw_split rfl (fun cc3 => ?_) (fun cc3 => ?_)
      · skip
        replace h := bt cc3 h
        have q4 := ltb_true.1 cc3
        refine cw_seq ?_
        refine cw_region ?_
        refine wl_u rfl (ow_y (yh_assign rfl rfl) rfl rfl (kk_wl ?_))
        refine wl_nil ?_
        refine ex_seq ?_
        refine cw_ret ?_
        refine ex_block_ret ?_
        refine ex_then_ret ?_
        refine ex_then_ret ?_
        refine ex_block_ret ?_
        refine ex_then_ret ?_
        obtain rfl := Option.some.inj h
        obtain rfl := go_ret hk4
        exact ex_r1 Tb rfl (.tmp rfl) (fun wq hq => ⟨_, rfl, hq.ext, rfl⟩)
      · skip
        replace h := bf cc3 h
        have q5 := ltb_false.1 cc3
        refine cw_skip ?_
        refine ex_block_normal ?_
        refine ex_seq ?_
        refine cw_region ?_
        refine wl_u rfl (ow_y (yh_move rfl rfl) rfl rfl (kk_wl ?_))
        refine wl_u rfl (ow_y (yh_arI rfl rfl rfl rfl (by omega)) rfl rfl (kk_wl ?_))
        refine wl_u rfl (ow_y (yh_assign rfl rfl) rfl rfl (kk_wl ?_))
        refine wl_nil ?_
        exact ex_next [] (hn4 (n4, s3 + 1) (Nat.lt_succ_self _) h) ⟨rfl, rfl, trivial⟩ (by kernel_rfl)
  · skip
    replace h := bf cc1 h
    have q6 := ltb_false.1 cc1
    refine cw_exit ?_
    refine ex_then_exit ?_
    refine ex_then_exit ?_
    obtain rfl := Option.some.inj h
    have h := go_brk hk4
    refine ex_block_exit ?_
    refine ex_seq ?_
    refine cw_seq ?_
    refine cw_region ?_
    refine wl_u rfl (ow_y (yh_move rfl rfl) rfl rfl (kk_wl ?_))
    refine wl_u rfl (ow_y (yh_lenT Tb rfl rfl rfl rfl) rfl rfl (kk_wl ?_))
    obtain ⟨x22, hx22, h⟩ := bd h
    refine wl_u rfl (ow_cV rfl hb28 rfl (fun w hw => c_spec_l6In N _ _ _ _ hx22 w) rfl rfl (kk_wl ?_))
    refine wl_u rfl (ow_y (yh_assign rfl rfl) rfl rfl (kk_wl ?_))
    refine wl_nil ?_
    refine ex_seq ?_
    refine cw_ret ?_
    obtain rfl := Option.some.inj h
    exact ex_r1 Tb rfl (.tmp rfl) (fun wq hq => ⟨_, rfl, hq.ext, rfl⟩)

def m_spec_EventsValid_L4 (N : Nat) (list_ : List Event) : Nat → Nat → Option (Ex (Nat) (Bool))
  | 0, _ => none
  | n + 1, s3 => (bif ltb ((s3 : Nat) : Int) ((list_.length : Nat) : Int) then (list_[s3]?).bind fun y12 => (m_spec_l6In N y12.kind 1 3).bind fun x15 => (bif !x15 then some (Ex.ret false)
 else (m_spec_NameValid N y12.name).bind fun x23 => (bif !x23 then some (Ex.ret false)
 else m_spec_EventsValid_L4 N list_ n (s3 + 1)))
 else some (Ex.brk (s3)))

def m_spec_EventsValid (N : Nat) (list_ : List Event) : Option (Bool) := (m_spec_EventsValid_L4 N list_ N 0).bind fun e4 => e4.go (fun r => r) fun b4 => some (leb ((list_.length : Nat) : Int) 20)

set_option maxHeartbeats 4000000 in
theorem c_spec_EventsValid (N : Nat) (list_ : List Event) (res : Bool) (h : m_spec_EventsValid N list_ = some res) (w : World) {a_list_ : Option Addr} {c_list_ : Nat} (h_list_ : eventsL.rd w [] [.slice a_list_ list_.length c_list_] list_) : Ret Tryd.prog 12 [.slice a_list_ list_.length c_list_] w [] fun v w' => v = .bool res := by
  have mh_list_ := rd_max h_list_
  unfold m_spec_EventsValid at h
  refine ret_enter Tryd.func12 rfl Tryd.ntmps12 rfl (Hp.refl w _) ?_
  refine cw_seq ?_
  refine cw_region ?_
  refine wl_u rfl (ow_y (yh_assign rfl rfl) rfl rfl (kk_wl ?_))
  refine wl_nil ?_
  refine ex_seq ?_
  refine cw_seq ?_
  refine cw_seq ?_
  refine cw_region ?_
  refine wl_u rfl (ow_y (yh_assign rfl rfl) rfl rfl (kk_wl ?_))
  refine wl_nil ?_
  refine ex_seq ?_
  refine cw_block ?_
  obtain ⟨e4, he4, hk4⟩ := bd h
  clear h
  refine cw_loopG (σ := Nat × Nat) (fun s => m_spec_EventsValid_L4 N list_ s.1 s.2 = some e4) (fun s => [(0, .slice a_list_ list_.length c_list_), (3, .int .i64 ((s.2 : Nat) : Int))]) (fun s => []) (fun s => s.1) (N, 0) [] he4 ⟨rfl, rfl, trivial⟩ rfl (fun KL s he4 hn4 => ?_)
  obtain ⟨n4, s3⟩ := s
  simp only at he4 hn4 ⊢
  rcases n4 with _ | n4
  · exact nosome he4
  have h := he4; rw [m_spec_EventsValid_L4] at h
  refine cw_seq ?_
  refine cw_seq ?_
  refine cw_region ?_
  refine wl_u rfl (ow_y (yh_move rfl rfl) rfl rfl (kk_wl ?_))
  refine wl_u rfl (ow_y (yh_move rfl rfl) rfl rfl (kk_wl ?_))
  refine wl_u rfl (ow_y (yh_lenS Tb rfl rfl rfl rfl) rfl rfl (kk_wl ?_))
  refine wl_u rfl (ow_y (yh_cmpI rfl rfl rfl rfl) rfl rfl (kk_wl ?_))
  refine wl_nil ?_
  refine ex_seq ?_
  refine cw_split rfl (fun cc1 => ?_) (fun cc1 => ?_)
  · skip
    replace h := bt cc1 h
    have q1 := ltb_true.1 cc1
    refine cw_skip ?_
    refine ex_seq ?_
    refine cw_seq ?_
    refine cw_block ?_
    refine cw_seq ?_
    refine cw_region ?_
    refine wl_u rfl (ow_y (yh_move rfl rfl) rfl rfl (kk_wl ?_))
    refine wl_u rfl (ow_y (yh_move rfl rfl) rfl rfl (kk_wl ?_))
    obtain ⟨y12, hy12, h⟩ := bd h
    obtain ⟨b12, o12, ha12⟩ := sl_addr h_list_ hy12
    subst ha12
    have hc12 := get_event h_list_ hy12
    refine wl_u rfl (ow_y (yh_idx Tb (k := s3) rfl rfl rfl rfl (get_lt hy12) rfl rfl) rfl rfl (kk_wl ?_))
    refine wl_u rfl (ow_y (yh_field Tb rfl rfl rfl) rfl rfl (kk_wl ?_))
    refine wl_u rfl (ow_y (yh_loadAF Tb (j := 0) rfl rfl rfl hc12 rfl) rfl rfl (kk_wl ?_))
    obtain ⟨x15, hx15, h⟩ := bd h
    refine wl_u rfl (ow_cV rfl hb28 rfl (fun w hw => c_spec_l6In N _ _ _ _ hx15 w) rfl rfl (kk_wl ?_))
    refine wl_u rfl (ow_y (yh_not rfl rfl) rfl rfl (kk_wl ?_))
    refine wl_u rfl (ow_y (yh_move rfl rfl) rfl rfl (kk_wl ?_))
    refine wl_s rfl rfl (fun cc2 => ?_) (fun cc2 => ?_)
    · skip
      replace h := bt cc2 h
      refine wl_n rfl rfl rfl rfl ?_
      refine wl_n rfl rfl rfl rfl ?_
      refine wl_n rfl rfl rfl rfl ?_
      refine wl_n rfl rfl rfl rfl ?_
      refine wl_n rfl rfl rfl rfl ?_
      refine wl_n rfl rfl rfl rfl ?_
      refine wl_n rfl rfl rfl rfl ?_
      refine wl_u rfl (ow_y (yh_pickT rfl rfl rfl) rfl rfl (kk_wl ?_))
      refine wl_nil ?_
      refine ex_seq ?_
      refine cw_true rfl ?_
      refine cw_seq ?_
      refine cw_region ?_
      refine wl_u rfl (ow_y (yh_assign rfl rfl) rfl rfl (kk_wl ?_))
      refine wl_nil ?_
      refine ex_seq ?_
      refine cw_ret ?_
      refine ex_block_ret ?_
      refine ex_then_ret ?_
      refine ex_then_ret ?_
      refine ex_block_ret ?_
      refine ex_then_ret ?_
      obtain rfl := Option.some.inj h
      obtain rfl := go_ret hk4
      exact ex_r1 Tb rfl (.tmp rfl) (fun wq hq => ⟨_, rfl, hq.ext, rfl⟩)
    · skip
      replace h := bf cc2 h
      refine wl_g rfl rfl (ow_y (yh_move rfl rfl) rfl rfl (kk_wl ?_))
      refine wl_g rfl rfl (ow_y (yh_move rfl rfl) rfl rfl (kk_wl ?_))
      refine wl_g rfl rfl (ow_y (yh_idx Tb (k := s3) rfl rfl rfl rfl (get_lt hy12) rfl rfl) rfl rfl (kk_wl ?_))
      refine wl_g rfl rfl (ow_y (yh_field Tb rfl rfl rfl) rfl rfl (kk_wl ?_))
      refine wl_g rfl rfl (ow_y (yh_loadAF Tb (j := 1) rfl rfl rfl hc12 rfl) rfl rfl (kk_wl ?_))
      obtain ⟨x23, hx23, h⟩ := bd h
      refine wl_g rfl rfl (ow_cV rfl hb29 rfl (fun w hw => c_spec_NameValid N _ _ hx23 w) rfl rfl (kk_wl ?_))
      refine wl_g rfl rfl (ow_y (yh_not rfl rfl) rfl rfl (kk_wl ?_))
      refine wl_u rfl (ow_y (yh_pickF rfl rfl rfl) rfl rfl (kk_wl ?_))
      refine wl_nil ?_
      refine ex_seq ?_
      refine cw_split rfl (fun cc3 => ?_) (fun cc3 => ?_)
      · skip
        replace h := bt cc3 h
        refine cw_seq ?_
        refine cw_region ?_
        refine wl_u rfl (ow_y (yh_assign rfl rfl) rfl rfl (kk_wl ?_))
        refine wl_nil ?_
        refine ex_seq ?_
        refine cw_ret ?_
        refine ex_block_ret ?_
        refine ex_then_ret ?_
        refine ex_then_ret ?_
        refine ex_block_ret ?_
        refine ex_then_ret ?_
        obtain rfl := Option.some.inj h
        obtain rfl := go_ret hk4
        exact ex_r1 Tb rfl (.tmp rfl) (fun wq hq => ⟨_, rfl, hq.ext, rfl⟩)
      · skip
        replace h := bf cc3 h
        refine cw_skip ?_
        refine ex_block_normal ?_
        refine ex_seq ?_
        refine cw_region ?_
        refine wl_u rfl (ow_y (yh_move rfl rfl) rfl rfl (kk_wl ?_))
        refine wl_u rfl (ow_y (yh_arI rfl rfl rfl rfl (by omega)) rfl rfl (kk_wl ?_))
        refine wl_u rfl (ow_y (yh_assign rfl rfl) rfl rfl (kk_wl ?_))
        refine wl_nil ?_
        exact ex_next [] (hn4 (n4, s3 + 1) (Nat.lt_succ_self _) h) ⟨rfl, rfl, trivial⟩ (by kernel_rfl)
  · skip
    replace h := bf cc1 h
    have q2 := ltb_false.1 cc1
    refine cw_exit ?_
    refine ex_then_exit ?_
    refine ex_then_exit ?_
    obtain rfl := Option.some.inj h
    have h := go_brk hk4
    refine ex_block_exit ?_
    refine ex_seq ?_
    refine cw_seq ?_
    refine cw_region ?_
    refine wl_u rfl (ow_y (yh_move rfl rfl) rfl rfl (kk_wl ?_))
    refine wl_u rfl (ow_y (yh_lenS Tb rfl rfl rfl rfl) rfl rfl (kk_wl ?_))
    refine wl_u rfl (ow_y (yh_cmpI rfl rfl rfl rfl) rfl rfl (kk_wl ?_))
    refine wl_u rfl (ow_y (yh_assign rfl rfl) rfl rfl (kk_wl ?_))
    refine wl_nil ?_
    refine ex_seq ?_
    refine cw_ret ?_
    obtain rfl := Option.some.inj h
    exact ex_r1 Tb rfl (.tmp rfl) (fun wq hq => ⟨_, rfl, hq.ext, rfl⟩)

def m_spec_l5Ok (N : Nat) (e : Event) : Option (Bool) := (m_spec_l6In N e.kind 1 3).bind fun x5 => (bif x5 then (m_spec_NameValid N e.name).bind fun x9 => some x9
 else some false)

set_option maxHeartbeats 4000000 in
theorem c_spec_l5Ok (N : Nat) (e : Event) (res : Bool) (h : m_spec_l5Ok N e = some res) (w : World) : Ret Tryd.prog 42 [.agg #[.int .i64 e.kind, .string e.name]] w [] fun v w' => v = .bool res := by
  unfold m_spec_l5Ok at h
  refine ret_enter Tryd.func42 rfl Tryd.ntmps42 rfl (Hp.refl w _) ?_
  refine cw_seq ?_
  refine cw_region ?_
  refine wl_u rfl (ow_boxA rfl rfl rfl rfl (fun g1 => kk_wl ?_))
  refine wl_u rfl (ow_y (yh_assign rfl rfl) rfl rfl (kk_wl ?_))
  refine wl_nil ?_
  refine ex_seq ?_
  refine cw_seq ?_
  refine cw_region ?_
  refine wl_u rfl (ow_y (yh_field Tb rfl rfl rfl) rfl rfl (kk_wl ?_))
  refine wl_u rfl (ow_y (yh_loadB Tb (k := 0) rfl rfl rfl rfl rfl) rfl rfl (kk_wl ?_))
  obtain ⟨x5, hx5, h⟩ := bd h
  refine wl_u rfl (ow_cV rfl hb28 rfl (fun w hw => c_spec_l6In N _ _ _ _ hx5 w) rfl rfl (kk_wl ?_))
  refine wl_u rfl (ow_y (yh_move rfl rfl) rfl rfl (kk_wl ?_))
  refine wl_s rfl rfl (fun cc1 => ?_) (fun cc1 => ?_)
  · skip
    replace h := bt cc1 h
    refine wl_g rfl rfl (ow_y (yh_field Tb rfl rfl rfl) rfl rfl (kk_wl ?_))
    refine wl_g rfl rfl (ow_y (yh_loadB Tb (k := 0) rfl rfl rfl rfl rfl) rfl rfl (kk_wl ?_))
    obtain ⟨x9, hx9, h⟩ := bd h
    refine wl_g rfl rfl (ow_cV rfl hb29 rfl (fun w hw => c_spec_NameValid N _ _ hx9 w) rfl rfl (kk_wl ?_))
    refine wl_u rfl (ow_y (yh_pickT rfl rfl rfl) rfl rfl (kk_wl ?_))
    refine wl_u rfl (ow_y (yh_assign rfl rfl) rfl rfl (kk_wl ?_))
    refine wl_nil ?_
    refine ex_seq ?_
    refine cw_ret ?_
    obtain rfl := Option.some.inj h
    exact ex_r1 Tb rfl (.tmp rfl) (fun wq hq => ⟨_, rfl, hq.ext, rfl⟩)
  · skip
    replace h := bf cc1 h
    refine wl_n rfl rfl rfl rfl ?_
    refine wl_n rfl rfl rfl rfl ?_
    refine wl_n rfl rfl rfl rfl ?_
    refine wl_u rfl (ow_y (yh_pickF rfl rfl rfl) rfl rfl (kk_wl ?_))
    refine wl_u rfl (ow_y (yh_assign rfl rfl) rfl rfl (kk_wl ?_))
    refine wl_nil ?_
    refine ex_seq ?_
    refine cw_ret ?_
    obtain rfl := Option.some.inj h
    exact ex_r1 Tb rfl (.tmp rfl) (fun wq hq => ⟨_, rfl, hq.ext, rfl⟩)

def m_spec_l6Dec : Nat → Int → Option (Str)
  | 0, _ => none
  | N + 1, n_ => (bif ltb n_ (-9223372036854775807) then some (⟨#[45, 57, 50, 50, 51, 51, 55, 50, 48, 51, 54, 56, 53, 52, 55, 55, 53, 56, 48, 56]⟩ : Str)
 else (bif ltb n_ 0 then (m_spec_l6Dec N (w64 (0 - n_))).bind fun x9 => (cat (⟨#[45]⟩ : Str) x9).bind fun t10_ => some t10_
 else (bif ltb n_ 10 then some (bstr [u8w (w64 (48 + n_))])
 else (m_spec_l6Dec N (w64 (Int.tdiv n_ 10))).bind fun x20 => (cat x20 (bstr [u8w (w64 (48 + (Int.tmod n_ 10)))])).bind fun t27_ => some t27_)))

set_option maxHeartbeats 4000000 in
theorem c_spec_l6Dec (N : Nat) : ∀ (n_ : Int) (res : Str) (h : m_spec_l6Dec N n_ = some res) (w : World), Ret Tryd.prog 43 [.int .i64 n_] w [] fun v w' => v = .string res := by
  induction N with
  | zero =>
    intro n_ res h w
    exact nosome h
  | succ N ih =>
    intro n_ res h w
    unfold m_spec_l6Dec at h
    refine ret_enter Tryd.func43 rfl Tryd.ntmps43 rfl (Hp.refl w _) ?_
    refine cw_seq ?_
    refine cw_region ?_
    refine wl_u rfl (ow_y (yh_assign rfl rfl) rfl rfl (kk_wl ?_))
    refine wl_nil ?_
    refine ex_seq ?_
    refine cw_seq ?_
    refine cw_seq ?_
    refine cw_region ?_
    refine wl_u rfl (ow_y (yh_move rfl rfl) rfl rfl (kk_wl ?_))
    refine wl_u rfl (ow_y (yh_cmpI rfl rfl rfl rfl) rfl rfl (kk_wl ?_))
    refine wl_nil ?_
    refine ex_seq ?_
    refine cw_split rfl (fun cc1 => ?_) (fun cc1 => ?_)
    · skip
      replace h := bt cc1 h
      have q1 := ltb_true.1 cc1
      refine cw_seq ?_
      refine cw_region ?_
      refine wl_u rfl (ow_y (yh_assign rfl rfl) rfl rfl (kk_wl ?_))
      refine wl_nil ?_
      refine ex_seq ?_
      refine cw_ret ?_
      refine ex_then_ret ?_
      obtain rfl := Option.some.inj h
      exact ex_r1 Tb rfl (.tmp rfl) (fun wq hq => ⟨_, rfl, hq.ext, rfl⟩)
    · skip
      replace h := bf cc1 h
      have q2 := ltb_false.1 cc1
      refine cw_skip ?_
      refine ex_seq ?_
      refine cw_seq ?_
      refine cw_seq ?_
      refine cw_region ?_
      refine wl_u rfl (ow_y (yh_move rfl rfl) rfl rfl (kk_wl ?_))
      refine wl_u rfl (ow_y (yh_cmpI rfl rfl rfl rfl) rfl rfl (kk_wl ?_))
      refine wl_nil ?_
      refine ex_seq ?_
      refine cw_split rfl (fun cc2 => ?_) (fun cc2 => ?_)
      · skip
        replace h := bt cc2 h
        have q3 := ltb_true.1 cc2
        refine cw_seq ?_
        refine cw_region ?_
        refine wl_u rfl (ow_y (yh_move rfl rfl) rfl rfl (kk_wl ?_))
        refine wl_u rfl (ow_y (yh_negI rfl rfl) rfl rfl (kk_wl ?_))
        obtain ⟨x9, hx9, h⟩ := bd h
        refine wl_u rfl (ow_cV rfl hb43 rfl (fun w hw => ih _ _ hx9 w) rfl rfl (kk_wl ?_))
        obtain ⟨t10_, zt10_, h⟩ := bd h
        refine wl_u rfl (ow_y (yh_addS zt10_ rfl rfl rfl) rfl rfl (kk_wl ?_))
        refine wl_u rfl (ow_y (yh_assign rfl rfl) rfl rfl (kk_wl ?_))
        refine wl_nil ?_
        refine ex_seq ?_
        refine cw_ret ?_
        refine ex_then_ret ?_
        obtain rfl := Option.some.inj h
        exact ex_r1 Tb rfl (.tmp rfl) (fun wq hq => ⟨_, rfl, hq.ext, rfl⟩)
      · skip
        replace h := bf cc2 h
        have q4 := ltb_false.1 cc2
        refine cw_skip ?_
        refine ex_seq ?_
        refine cw_seq ?_
        refine cw_seq ?_
        refine cw_region ?_
        refine wl_u rfl (ow_y (yh_move rfl rfl) rfl rfl (kk_wl ?_))
        refine wl_u rfl (ow_y (yh_cmpI rfl rfl rfl rfl) rfl rfl (kk_wl ?_))
        refine wl_nil ?_
        refine ex_seq ?_
        refine cw_split rfl (fun cc3 => ?_) (fun cc3 => ?_)
        · skip
          replace h := bt cc3 h
          have q5 := ltb_true.1 cc3
          refine cw_seq ?_
          refine cw_region ?_
          refine wl_u rfl (ow_y (yh_move rfl rfl) rfl rfl (kk_wl ?_))
          refine wl_u rfl (ow_y (yh_arW rfl rfl rfl rfl) rfl rfl (kk_wl ?_))
          refine wl_u rfl (ow_y (yh_convU rfl rfl (by kernel_rfl)) rfl rfl (kk_wl ?_))
          refine wl_u rfl (ow_lit1 Tb rfl rfl rfl rfl rfl rfl rfl rfl rfl rfl (fun g16 => kk_wl ?_))
          refine wl_u rfl (ow_y (yh_bstr (ns := [u8w (w64 (48 + n_))]) (k := 0) rfl rfl rfl rfl (by kernel_rfl)) rfl rfl (kk_wl ?_))
          refine wl_u rfl (ow_y (yh_assign rfl rfl) rfl rfl (kk_wl ?_))
          refine wl_nil ?_
          refine ex_seq ?_
          refine cw_ret ?_
          refine ex_then_ret ?_
          obtain rfl := Option.some.inj h
          exact ex_r1 Tb rfl (.tmp rfl) (fun wq hq => ⟨_, rfl, hq.ext, rfl⟩)
        · skip
          replace h := bf cc3 h
          have q6 := ltb_false.1 cc3
          refine cw_skip ?_
          refine ex_seq ?_
          refine cw_seq ?_
          refine cw_dr [0, 1, 3, 4, 5, 6, 9, 10] [] [] (by kernel_rfl) ?_
          refine wd_take (i := 0) [] rfl rfl rfl rfl rfl (by kernel_rfl) (by kernel_rfl) (fun _ _ _ _ h => h) (yh_move rfl rfl) ?_
          refine wd_take (i := 1) [] rfl rfl rfl rfl rfl (by kernel_rfl) (by kernel_rfl) (fun _ _ _ _ h => h) (yh_quoT rfl rfl rfl (by decide)) ?_
          refine wd_take (i := 3) [] rfl rfl rfl rfl rfl (by kernel_rfl) (by kernel_rfl) (fun _ _ _ _ h => h) (yh_move rfl rfl) ?_
          refine wd_take (i := 4) [] rfl rfl rfl rfl rfl (by kernel_rfl) (by kernel_rfl) (fun _ _ _ _ h => h) (yh_remT rfl rfl rfl (by decide)) ?_
          refine wd_take (i := 5) [] rfl rfl rfl rfl rfl (by kernel_rfl) (by kernel_rfl) (fun _ _ _ _ h => h) (yh_arW rfl rfl rfl rfl) ?_
          refine wd_take (i := 6) [] rfl rfl rfl rfl rfl (by kernel_rfl) (by kernel_rfl) (fun _ _ _ _ h => h) (yh_convU rfl rfl (by kernel_rfl)) ?_
          refine wd_all [2, 7] (by kernel_rfl) (by simp) (fun i hi => ?_)
          simp only [List.mem_cons, List.not_mem_nil, or_false] at hi
          rcases hi with rfl | rfl
          · refine ⟨_, rfl, rfl, ?_⟩
            obtain ⟨x20, hx20, h⟩ := bd h
            refine (ow_cV rfl hb43 rfl (fun w hw => ih _ _ hx20 w) rfl rfl (kk_wd [] (by kernel_rfl) ?_))
            refine wd_one 7 rfl rfl (by kernel_rfl) (ow_lit1 Tb rfl rfl rfl rfl rfl rfl rfl rfl rfl rfl (fun g25 => kk_wd [] (by kernel_rfl) ?_))
            refine wd_one 8 rfl rfl (by kernel_rfl) (ow_y (yh_bstr (ns := [u8w (w64 (48 + (Int.tmod n_ 10)))]) (k := 0) rfl rfl rfl rfl (by kernel_rfl)) rfl rfl (kk_wd [] (by kernel_rfl) ?_))
            obtain ⟨t27_, zt27_, h⟩ := bd h
            refine wd_take (i := 9) [] rfl rfl rfl rfl rfl (by kernel_rfl) (by kernel_rfl) (fun _ _ _ _ h => h) (yh_addS zt27_ rfl rfl rfl) ?_
            refine wd_take (i := 10) [] rfl rfl rfl rfl rfl (by kernel_rfl) (by kernel_rfl) (fun _ _ _ _ h => h) (yh_assign rfl rfl) ?_
            refine wd_done (by kernel_rfl) ?_
            refine ex_seq ?_
            refine cw_ret ?_
            obtain rfl := Option.some.inj h
            exact ex_r1 Tb rfl (.tmp rfl) (fun wq hq => ⟨_, rfl, hq.ext, rfl⟩)
          · refine ⟨_, rfl, rfl, ?_⟩
            refine (ow_lit1 Tb rfl rfl rfl rfl rfl rfl rfl rfl rfl rfl (fun g25 => kk_wd [] (by kernel_rfl) ?_))
            refine wd_all [2, 8] (by kernel_rfl) (by simp) (fun i hi => ?_)
            simp only [List.mem_cons, List.not_mem_nil, or_false] at hi
            rcases hi with rfl | rfl
            · refine ⟨_, rfl, rfl, ?_⟩
              obtain ⟨x20, hx20, h⟩ := bd h
              refine (ow_cV rfl hb43 rfl (fun w hw => ih _ _ hx20 w) rfl rfl (kk_wd [] (by kernel_rfl) ?_))
              refine wd_one 8 rfl rfl (by kernel_rfl) (ow_y (yh_bstr (ns := [u8w (w64 (48 + (Int.tmod n_ 10)))]) (k := 0) rfl rfl rfl rfl (by kernel_rfl)) rfl rfl (kk_wd [] (by kernel_rfl) ?_))
              obtain ⟨t27_, zt27_, h⟩ := bd h
              refine wd_take (i := 9) [] rfl rfl rfl rfl rfl (by kernel_rfl) (by kernel_rfl) (fun _ _ _ _ h => h) (yh_addS zt27_ rfl rfl rfl) ?_
              refine wd_take (i := 10) [] rfl rfl rfl rfl rfl (by kernel_rfl) (by kernel_rfl) (fun _ _ _ _ h => h) (yh_assign rfl rfl) ?_
              refine wd_done (by kernel_rfl) ?_
              refine ex_seq ?_
              refine cw_ret ?_
              obtain rfl := Option.some.inj h
              exact ex_r1 Tb rfl (.tmp rfl) (fun wq hq => ⟨_, rfl, hq.ext, rfl⟩)
            · refine ⟨_, rfl, rfl, ?_⟩
              refine (ow_y (yh_bstr (ns := [u8w (w64 (48 + (Int.tmod n_ 10)))]) (k := 0) rfl rfl rfl rfl (by kernel_rfl)) rfl rfl (kk_wd [] (by kernel_rfl) ?_))
              obtain ⟨x20, hx20, h⟩ := bd h
              refine wd_one 2 rfl rfl (by kernel_rfl) (ow_cV rfl hb43 rfl (fun w hw => ih _ _ hx20 w) rfl rfl (kk_wd [] (by kernel_rfl) ?_))
              obtain ⟨t27_, zt27_, h⟩ := bd h
              refine wd_take (i := 9) [] rfl rfl rfl rfl rfl (by kernel_rfl) (by kernel_rfl) (fun _ _ _ _ h => h) (yh_addS zt27_ rfl rfl rfl) ?_
              refine wd_take (i := 10) [] rfl rfl rfl rfl rfl (by kernel_rfl) (by kernel_rfl) (fun _ _ _ _ h => h) (yh_assign rfl rfl) ?_
              refine wd_done (by kernel_rfl) ?_
              refine ex_seq ?_
              refine cw_ret ?_
              obtain rfl := Option.some.inj h
              exact ex_r1 Tb rfl (.tmp rfl) (fun wq hq => ⟨_, rfl, hq.ext, rfl⟩)

def m_spec_l5Kind (N : Nat) (kind : Int) : Option (Str) := (bif eqb kind 1 then some (⟨#[100, 105, 100]⟩ : Str)
 else (bif eqb kind 2 then some (⟨#[102, 97, 105, 108, 101, 100]⟩ : Str)
 else some (⟨#[117, 110, 100, 105, 100]⟩ : Str)))

set_option maxHeartbeats 4000000 in
theorem c_spec_l5Kind (N : Nat) (kind : Int) (res : Str) (h : m_spec_l5Kind N kind = some res) (w : World) : Ret Tryd.prog 44 [.int .i64 kind] w [] fun v w' => v = .string res := by
  unfold m_spec_l5Kind at h
  refine ret_enter Tryd.func44 rfl Tryd.ntmps44 rfl (Hp.refl w _) ?_
  refine cw_seq ?_
  refine cw_region ?_
  refine wl_u rfl (ow_y (yh_assign rfl rfl) rfl rfl (kk_wl ?_))
  refine wl_nil ?_
  refine ex_seq ?_
  refine cw_seq ?_
  refine cw_seq ?_
  refine cw_region ?_
  refine wl_u rfl (ow_y (yh_move rfl rfl) rfl rfl (kk_wl ?_))
  refine wl_nil ?_
  refine ex_seq ?_
  refine cw_block ?_
  refine cw_seq ?_
  refine cw_region ?_
  refine wl_u rfl (ow_y (yh_cmpI rfl rfl rfl rfl) rfl rfl (kk_wl ?_))
  refine wl_u rfl (ow_y (yh_assign rfl rfl) rfl rfl (kk_wl ?_))
  refine wl_nil ?_
  refine ex_seq ?_
  refine cw_split rfl (fun cc1 => ?_) (fun cc1 => ?_)
  · skip
    replace h := bt cc1 h
    have q1 := eqb_true.1 cc1
    refine cw_seq ?_
    refine cw_region ?_
    refine wl_u rfl (ow_y (yh_assign rfl rfl) rfl rfl (kk_wl ?_))
    refine wl_nil ?_
    refine ex_seq ?_
    refine cw_ret ?_
    refine ex_block_ret ?_
    refine ex_then_ret ?_
    obtain rfl := Option.some.inj h
    exact ex_r1 Tb rfl (.tmp rfl) (fun wq hq => ⟨_, rfl, hq.ext, rfl⟩)
  · skip
    replace h := bf cc1 h
    have q2 := eqb_false.1 cc1
    refine cw_seq ?_
    refine cw_region ?_
    refine wl_u rfl (ow_y (yh_cmpI rfl rfl rfl rfl) rfl rfl (kk_wl ?_))
    refine wl_u rfl (ow_y (yh_assign rfl rfl) rfl rfl (kk_wl ?_))
    refine wl_nil ?_
    refine ex_seq ?_
    refine cw_split rfl (fun cc2 => ?_) (fun cc2 => ?_)
    · skip
      replace h := bt cc2 h
      have q3 := eqb_true.1 cc2
      refine cw_seq ?_
      refine cw_region ?_
      refine wl_u rfl (ow_y (yh_assign rfl rfl) rfl rfl (kk_wl ?_))
      refine wl_nil ?_
      refine ex_seq ?_
      refine cw_ret ?_
      refine ex_block_ret ?_
      refine ex_then_ret ?_
      obtain rfl := Option.some.inj h
      exact ex_r1 Tb rfl (.tmp rfl) (fun wq hq => ⟨_, rfl, hq.ext, rfl⟩)
    · skip
      replace h := bf cc2 h
      have q4 := eqb_false.1 cc2
      refine cw_skip ?_
      refine ex_block_normal ?_
      refine ex_seq ?_
      refine cw_seq ?_
      refine cw_region ?_
      refine wl_u rfl (ow_y (yh_assign rfl rfl) rfl rfl (kk_wl ?_))
      refine wl_nil ?_
      refine ex_seq ?_
      refine cw_ret ?_
      obtain rfl := Option.some.inj h
      exact ex_r1 Tb rfl (.tmp rfl) (fun wq hq => ⟨_, rfl, hq.ext, rfl⟩)

def m_spec_l5Sum_L5 (N : Nat) (s_ : Str) : Nat → Int → Nat → Option (Ex (Int × Nat) (Int))
  | 0, _, _ => none
  | n + 1, s3, s4 => (ssz s_).bind fun z7 => (bif ltb ((s4 : Nat) : Int) ((s_.size : Nat) : Int) then (bget s_ s4).bind fun y15 => m_spec_l5Sum_L5 N s_ n (Int.tmod (w64 ((w64 (263 * s3)) + ((y15 : Nat) : Int))) 997) (s4 + 1)
 else some (Ex.brk (s3, s4)))

def m_spec_l5Sum (N : Nat) (s_ : Str) : Option (Int) := (m_spec_l5Sum_L5 N s_ N 17 0).bind fun e5 => e5.go (fun r => r) fun b5 => some b5.1

set_option maxHeartbeats 4000000 in
theorem c_spec_l5Sum (N : Nat) (s_ : Str) (res : Int) (h : m_spec_l5Sum N s_ = some res) (w : World) : Ret Tryd.prog 45 [.string s_] w [] fun v w' => v = .int .i64 res := by
  unfold m_spec_l5Sum at h
  refine ret_enter Tryd.func45 rfl Tryd.ntmps45 rfl (Hp.refl w _) ?_
  refine cw_seq ?_
  refine cw_region ?_
  refine wl_u rfl (ow_y (yh_assign rfl rfl) rfl rfl (kk_wl ?_))
  refine wl_nil ?_
  refine ex_seq ?_
  refine cw_seq ?_
  refine cw_region ?_
  refine wl_u rfl (ow_y (yh_assign rfl rfl) rfl rfl (kk_wl ?_))
  refine wl_nil ?_
  refine ex_seq ?_
  refine cw_seq ?_
  refine cw_seq ?_
  refine cw_region ?_
  refine wl_u rfl (ow_y (yh_assign rfl rfl) rfl rfl (kk_wl ?_))
  refine wl_nil ?_
  refine ex_seq ?_
  refine cw_block ?_
  obtain ⟨e5, he5, hk5⟩ := bd h
  clear h
  refine cw_loopG (σ := Nat × Int × Nat) (fun s => m_spec_l5Sum_L5 N s_ s.1 s.2.1 s.2.2 = some e5) (fun s => [(0, .string s_), (3, .int .i64 s.2.1), (4, .int .i64 ((s.2.2 : Nat) : Int))]) (fun s => []) (fun s => s.1) (N, 17, 0) [] he5 ⟨rfl, rfl, rfl, trivial⟩ rfl (fun KL s he5 hn5 => ?_)
  obtain ⟨n5, s3, s4⟩ := s
  simp only at he5 hn5 ⊢
  rcases n5 with _ | n5
  · exact nosome he5
  have h := he5; rw [m_spec_l5Sum_L5] at h
  refine cw_seq ?_
  refine cw_seq ?_
  refine cw_region ?_
  refine wl_u rfl (ow_y (yh_move rfl rfl) rfl rfl (kk_wl ?_))
  refine wl_u rfl (ow_y (yh_move rfl rfl) rfl rfl (kk_wl ?_))
  obtain ⟨z7, hz7, h⟩ := bd h
  have mz7 := ssz_some hz7
  refine wl_u rfl (ow_y (yh_lenT Tb rfl rfl rfl rfl) rfl rfl (kk_wl ?_))
  refine wl_u rfl (ow_y (yh_cmpI rfl rfl rfl rfl) rfl rfl (kk_wl ?_))
  refine wl_nil ?_
  refine ex_seq ?_
  refine cw_split rfl (fun cc1 => ?_) (fun cc1 => ?_)
  · skip
    replace h := bt cc1 h
    have q1 := ltb_true.1 cc1
    refine cw_skip ?_
    refine ex_seq ?_
    refine cw_seq ?_
    refine cw_block ?_
    refine cw_region ?_
    refine wl_u rfl (ow_y (yh_move rfl rfl) rfl rfl (kk_wl ?_))
    refine wl_u rfl (ow_y (yh_arW rfl rfl rfl rfl) rfl rfl (kk_wl ?_))
    refine wl_u rfl (ow_y (yh_move rfl rfl) rfl rfl (kk_wl ?_))
    refine wl_u rfl (ow_y (yh_move rfl rfl) rfl rfl (kk_wl ?_))
    obtain ⟨y15, hy15, h⟩ := bd h
    refine wl_u rfl (ow_y (yh_indexS Tb (k := s4) rfl rfl rfl rfl hy15 rfl) rfl rfl (kk_wl ?_))
    refine wl_u rfl (ow_y (yh_conv rfl rfl (by kernel_rfl) (by first | omega | exact bget_fit hy15)) rfl rfl (kk_wl ?_))
    refine wl_u rfl (ow_y (yh_arW rfl rfl rfl rfl) rfl rfl (kk_wl ?_))
    refine wl_u rfl (ow_y (yh_remT rfl rfl rfl (by decide)) rfl rfl (kk_wl ?_))
    refine wl_u rfl (ow_y (yh_assign rfl rfl) rfl rfl (kk_wl ?_))
    refine wl_nil ?_
    refine ex_block_normal ?_
    refine ex_seq ?_
    refine cw_region ?_
    refine wl_u rfl (ow_y (yh_move rfl rfl) rfl rfl (kk_wl ?_))
    refine wl_u rfl (ow_y (yh_arI rfl rfl rfl rfl (by omega)) rfl rfl (kk_wl ?_))
    refine wl_u rfl (ow_y (yh_assign rfl rfl) rfl rfl (kk_wl ?_))
    refine wl_nil ?_
    exact ex_next [] (hn5 (n5, Int.tmod (w64 ((w64 (263 * s3)) + ((y15 : Nat) : Int))) 997, s4 + 1) (Nat.lt_succ_self _) h) ⟨rfl, rfl, rfl, trivial⟩ (by kernel_rfl)
  · skip
    replace h := bf cc1 h
    have q2 := ltb_false.1 cc1
    refine cw_exit ?_
    refine ex_then_exit ?_
    refine ex_then_exit ?_
    obtain rfl := Option.some.inj h
    have h := go_brk hk5
    refine ex_block_exit ?_
    refine ex_seq ?_
    refine cw_seq ?_
    refine cw_region ?_
    refine wl_u rfl (ow_y (yh_move rfl rfl) rfl rfl (kk_wl ?_))
    refine wl_u rfl (ow_y (yh_assign rfl rfl) rfl rfl (kk_wl ?_))
    refine wl_nil ?_
    refine ex_seq ?_
    refine cw_ret ?_
    obtain rfl := Option.some.inj h
    exact ex_r1 Tb rfl (.tmp rfl) (fun wq hq => ⟨_, rfl, hq.ext, rfl⟩)

def m_spec_EventText (N : Nat) (number : Int) (e : Event) : Option (Str) := (m_spec_l6In N number 1 20).bind fun x7 => (bif !x7 then some (⟨#[]⟩ : Str)
 else (m_spec_l5Ok N e).bind fun x11 => (bif !x11 then some (⟨#[]⟩ : Str)
 else (m_spec_l6Dec N number).bind fun x15 => (cat x15 (⟨#[32]⟩ : Str)).bind fun t16_ => (m_spec_l5Kind N e.kind).bind fun x19 => (cat t16_ x19).bind fun t20_ => (cat t20_ (⟨#[32]⟩ : Str)).bind fun t21_ => (cat t21_ e.name).bind fun t24_ => (cat t24_ (⟨#[32]⟩ : Str)).bind fun t26_ => (m_spec_l5Sum N t24_).bind fun x28 => (m_spec_l6Dec N x28).bind fun x29 => (cat t26_ x29).bind fun t30_ => some t30_))

set_option maxHeartbeats 4000000 in
theorem c_spec_EventText (N : Nat) (number : Int) (e : Event) (res : Str) (h : m_spec_EventText N number e = some res) (w : World) : Ret Tryd.prog 27 [.int .i64 number, .agg #[.int .i64 e.kind, .string e.name]] w [] fun v w' => v = .string res := by
  unfold m_spec_EventText at h
  refine ret_enter Tryd.func27 rfl Tryd.ntmps27 rfl (Hp.refl w _) ?_
  refine cw_seq ?_
  refine cw_region ?_
  refine wl_u rfl (ow_boxA rfl rfl rfl rfl (fun g3 => kk_wl ?_))
  refine wl_u rfl (ow_y (yh_assign rfl rfl) rfl rfl (kk_wl ?_))
  refine wl_nil ?_
  refine ex_seq ?_
  refine cw_seq ?_
  refine cw_seq ?_
  refine cw_region ?_
  refine wl_u rfl (ow_y (yh_move rfl rfl) rfl rfl (kk_wl ?_))
  obtain ⟨x7, hx7, h⟩ := bd h
  refine wl_u rfl (ow_cV rfl hb28 rfl (fun w hw => c_spec_l6In N _ _ _ _ hx7 w) rfl rfl (kk_wl ?_))
  refine wl_u rfl (ow_y (yh_not rfl rfl) rfl rfl (kk_wl ?_))
  refine wl_u rfl (ow_y (yh_move rfl rfl) rfl rfl (kk_wl ?_))
  refine wl_s rfl rfl (fun cc1 => ?_) (fun cc1 => ?_)
  · skip
    replace h := bt cc1 h
    refine wl_n rfl rfl rfl rfl ?_
    refine wl_n rfl rfl rfl rfl ?_
    refine wl_n rfl rfl rfl rfl ?_
    refine wl_u rfl (ow_y (yh_pickT rfl rfl rfl) rfl rfl (kk_wl ?_))
    refine wl_nil ?_
    refine ex_seq ?_
    refine cw_true rfl ?_
    refine cw_seq ?_
    refine cw_region ?_
    refine wl_u rfl (ow_y (yh_assign rfl rfl) rfl rfl (kk_wl ?_))
    refine wl_nil ?_
    refine ex_seq ?_
    refine cw_ret ?_
    refine ex_then_ret ?_
    obtain rfl := Option.some.inj h
    exact ex_r1 Tb rfl (.tmp rfl) (fun wq hq => ⟨_, rfl, hq.ext, rfl⟩)
  · skip
    replace h := bf cc1 h
    refine wl_g rfl rfl (ow_y (yh_loadBA Tb (k := 0) rfl rfl rfl rfl rfl rfl) rfl rfl (kk_wl ?_))
    obtain ⟨x11, hx11, h⟩ := bd h
    refine wl_g rfl rfl (ow_cV rfl hb42 rfl (fun w hw => c_spec_l5Ok N _ _ hx11 w) rfl rfl (kk_wl ?_))
    refine wl_g rfl rfl (ow_y (yh_not rfl rfl) rfl rfl (kk_wl ?_))
    refine wl_u rfl (ow_y (yh_pickF rfl rfl rfl) rfl rfl (kk_wl ?_))
    refine wl_nil ?_
    refine ex_seq ?_
    refine cw_split rfl (fun cc2 => ?_) (fun cc2 => ?_)
    · skip
      replace h := bt cc2 h
      refine cw_seq ?_
      refine cw_region ?_
      refine wl_u rfl (ow_y (yh_assign rfl rfl) rfl rfl (kk_wl ?_))
      refine wl_nil ?_
      refine ex_seq ?_
      refine cw_ret ?_
      refine ex_then_ret ?_
      obtain rfl := Option.some.inj h
      exact ex_r1 Tb rfl (.tmp rfl) (fun wq hq => ⟨_, rfl, hq.ext, rfl⟩)
    · skip
      replace h := bf cc2 h
      refine cw_skip ?_
      refine ex_seq ?_
      refine cw_seq ?_
      refine cw_dr [0, 2, 3, 4, 6, 7, 8, 9, 10, 11] [] [blkC g3 35 [.int .i64 e.kind, .string e.name]] (by kernel_rfl) ?_
      refine wd_take (i := 0) [0] rfl rfl rfl rfl rfl (by kernel_rfl) (by kernel_rfl) (fun _ _ _ _ h => h) (yh_move rfl rfl) ?_
      refine wd_take (i := 3) [0] rfl rfl rfl rfl rfl (by kernel_rfl) (by kernel_rfl) (fun _ _ _ _ h => h) (yh_field Tb rfl rfl rfl) ?_
      refine wd_take (i := 4) [0] rfl rfl rfl rfl rfl (by kernel_rfl) (by kernel_rfl) (fun _ _ _ _ h => h) (yh_loadB Tb (k := 0) rfl rfl rfl rfl rfl) ?_
      refine wd_take (i := 8) [0] rfl rfl rfl rfl rfl (by kernel_rfl) (by kernel_rfl) (fun _ _ _ _ h => h) (yh_field Tb rfl rfl rfl) ?_
      refine wd_take (i := 9) [0] rfl rfl rfl rfl rfl (by kernel_rfl) (by kernel_rfl) (fun _ _ _ _ h => h) (yh_loadB Tb (k := 0) rfl rfl rfl rfl rfl) ?_
      obtain ⟨x15, hx15, h⟩ := bd h
      refine wd_one 1 rfl rfl (by kernel_rfl) (ow_cV rfl hb43 rfl (fun w hw => c_spec_l6Dec N _ _ hx15 w) rfl rfl (kk_wd [0] (by kernel_rfl) ?_))
      obtain ⟨t16_, zt16_, h⟩ := bd h
      refine wd_take (i := 2) [0] rfl rfl rfl rfl rfl (by kernel_rfl) (by kernel_rfl) (fun _ _ _ _ h => h) (yh_addS zt16_ rfl rfl rfl) ?_
      obtain ⟨x19, hx19, h⟩ := bd h
      refine wd_one 5 rfl rfl (by kernel_rfl) (ow_cV rfl hb44 rfl (fun w hw => c_spec_l5Kind N _ _ hx19 w) rfl rfl (kk_wd [0] (by kernel_rfl) ?_))
      obtain ⟨t20_, zt20_, h⟩ := bd h
      refine wd_take (i := 6) [0] rfl rfl rfl rfl rfl (by kernel_rfl) (by kernel_rfl) (fun _ _ _ _ h => h) (yh_addS zt20_ rfl rfl rfl) ?_
      obtain ⟨t21_, zt21_, h⟩ := bd h
      refine wd_take (i := 7) [0] rfl rfl rfl rfl rfl (by kernel_rfl) (by kernel_rfl) (fun _ _ _ _ h => h) (yh_addS zt21_ rfl rfl rfl) ?_
      obtain ⟨t24_, zt24_, h⟩ := bd h
      refine wd_take (i := 10) [0] rfl rfl rfl rfl rfl (by kernel_rfl) (by kernel_rfl) (fun _ _ _ _ h => h) (yh_addS zt24_ rfl rfl rfl) ?_
      refine wd_take (i := 11) [0] rfl rfl rfl rfl rfl (by kernel_rfl) (by kernel_rfl) (fun _ _ _ _ h => h) (yh_assign rfl rfl) ?_
      refine wd_done (by kernel_rfl) ?_
      refine ex_seq ?_
      refine cw_seq ?_
      refine cw_region ?_
      refine wl_u rfl (ow_y (yh_move rfl rfl) rfl rfl (kk_wl ?_))
      obtain ⟨t26_, zt26_, h⟩ := bd h
      refine wl_u rfl (ow_y (yh_addS zt26_ rfl rfl rfl) rfl rfl (kk_wl ?_))
      refine wl_u rfl (ow_y (yh_move rfl rfl) rfl rfl (kk_wl ?_))
      obtain ⟨x28, hx28, h⟩ := bd h
      refine wl_u rfl (ow_cV rfl hb45 rfl (fun w hw => c_spec_l5Sum N _ _ hx28 w) rfl rfl (kk_wl ?_))
      obtain ⟨x29, hx29, h⟩ := bd h
      refine wl_u rfl (ow_cV rfl hb43 rfl (fun w hw => c_spec_l6Dec N _ _ hx29 w) rfl rfl (kk_wl ?_))
      obtain ⟨t30_, zt30_, h⟩ := bd h
      refine wl_u rfl (ow_y (yh_addS zt30_ rfl rfl rfl) rfl rfl (kk_wl ?_))
      refine wl_u rfl (ow_y (yh_assign rfl rfl) rfl rfl (kk_wl ?_))
      refine wl_nil ?_
      refine ex_seq ?_
      refine cw_ret ?_
      obtain rfl := Option.some.inj h
      exact ex_r1 Tb rfl (.tmp rfl) (fun wq hq => ⟨_, rfl, hq.ext, rfl⟩)

def m_spec_JournalText_L5 (N : Nat) (list_ : List Event) : Nat → Str → Nat → Option (Ex (Str × Nat) (Str))
  | 0, _, _ => none
  | n + 1, s3, s4 => (bif ltb ((s4 : Nat) : Int) ((list_.length : Nat) : Int) then (m_spec_EventsValid N list_).bind fun x11 => (bif x11 then (list_[s4]?).bind fun y20 => (m_spec_EventText N (((s4 : Nat) : Int) + 1) y20).bind fun x22 => (cat s3 x22).bind fun t23_ => (cat t23_ (⟨#[10]⟩ : Str)).bind fun t24_ => m_spec_JournalText_L5 N list_ n t24_ (s4 + 1)
 else some (Ex.brk (s3, s4)))
 else some (Ex.brk (s3, s4)))

def m_spec_JournalText (N : Nat) (list_ : List Event) : Option (Str) := (m_spec_JournalText_L5 N list_ N (⟨#[]⟩ : Str) 0).bind fun e5 => e5.go (fun r => r) fun b5 => some b5.1

set_option maxHeartbeats 4000000 in
theorem c_spec_JournalText (N : Nat) (list_ : List Event) (res : Str) (h : m_spec_JournalText N list_ = some res) (w : World) {a_list_ : Option Addr} {c_list_ : Nat} (h_list_ : eventsL.rd w [] [.slice a_list_ list_.length c_list_] list_) : Ret Tryd.prog 11 [.slice a_list_ list_.length c_list_] w [] fun v w' => v = .string res := by
  have mh_list_ := rd_max h_list_
  unfold m_spec_JournalText at h
  refine ret_enter Tryd.func11 rfl Tryd.ntmps11 rfl (Hp.refl w _) ?_
  refine cw_seq ?_
  refine cw_region ?_
  refine wl_u rfl (ow_y (yh_assign rfl rfl) rfl rfl (kk_wl ?_))
  refine wl_nil ?_
  refine ex_seq ?_
  refine cw_seq ?_
  refine cw_region ?_
  refine wl_u rfl (ow_y (yh_assign rfl rfl) rfl rfl (kk_wl ?_))
  refine wl_nil ?_
  refine ex_seq ?_
  refine cw_seq ?_
  refine cw_seq ?_
  refine cw_region ?_
  refine wl_u rfl (ow_y (yh_assign rfl rfl) rfl rfl (kk_wl ?_))
  refine wl_nil ?_
  refine ex_seq ?_
  refine cw_block ?_
  obtain ⟨e5, he5, hk5⟩ := bd h
  clear h
  refine cw_loopG (σ := Nat × Str × Nat) (fun s => m_spec_JournalText_L5 N list_ s.1 s.2.1 s.2.2 = some e5) (fun s => [(0, .slice a_list_ list_.length c_list_), (3, .string s.2.1), (4, .int .i64 ((s.2.2 : Nat) : Int))]) (fun s => []) (fun s => s.1) (N, (⟨#[]⟩ : Str), 0) [] he5 ⟨rfl, rfl, rfl, trivial⟩ rfl (fun KL s he5 hn5 => ?_)
  obtain ⟨n5, s3, s4⟩ := s
  simp only at he5 hn5 ⊢
  rcases n5 with _ | n5
  · exact nosome he5
  have h := he5; rw [m_spec_JournalText_L5] at h
  refine cw_seq ?_
  refine cw_seq ?_
  refine cw_region ?_
  refine wl_u rfl (ow_y (yh_move rfl rfl) rfl rfl (kk_wl ?_))
  refine wl_u rfl (ow_y (yh_move rfl rfl) rfl rfl (kk_wl ?_))
  refine wl_u rfl (ow_y (yh_lenS Tb rfl rfl rfl rfl) rfl rfl (kk_wl ?_))
  refine wl_u rfl (ow_y (yh_cmpI rfl rfl rfl rfl) rfl rfl (kk_wl ?_))
  refine wl_u rfl (ow_y (yh_move rfl rfl) rfl rfl (kk_wl ?_))
  refine wl_s rfl rfl (fun cc1 => ?_) (fun cc1 => ?_)
  · skip
    replace h := bt cc1 h
    have q1 := ltb_true.1 cc1
    refine wl_g rfl rfl (ow_y (yh_move rfl rfl) rfl rfl (kk_wl ?_))
    obtain ⟨x11, hx11, h⟩ := bd h
    refine wl_g rfl rfl (ow_cV rfl hb12 rfl (fun w hw => c_spec_EventsValid N _ _ hx11 w (Lay.at_ h_list_ hw)) rfl rfl (kk_wl ?_))
    refine wl_u rfl (ow_y (yh_pickT rfl rfl rfl) rfl rfl (kk_wl ?_))
    refine wl_nil ?_
    refine ex_seq ?_
    refine cw_split rfl (fun cc2 => ?_) (fun cc2 => ?_)
    · skip
      replace h := bt cc2 h
      refine cw_skip ?_
      refine ex_seq ?_
      refine cw_seq ?_
      refine cw_block ?_
      refine cw_region ?_
      refine wl_u rfl (ow_y (yh_move rfl rfl) rfl rfl (kk_wl ?_))
      refine wl_u rfl (ow_y (yh_move rfl rfl) rfl rfl (kk_wl ?_))
      refine wl_u rfl (ow_y (yh_arI rfl rfl rfl rfl (by omega)) rfl rfl (kk_wl ?_))
      refine wl_u rfl (ow_y (yh_move rfl rfl) rfl rfl (kk_wl ?_))
      refine wl_u rfl (ow_y (yh_move rfl rfl) rfl rfl (kk_wl ?_))
      obtain ⟨y20, hy20, h⟩ := bd h
      obtain ⟨b20, o20, ha20⟩ := sl_addr h_list_ hy20
      subst ha20
      have hc20 := get_event h_list_ hy20
      refine wl_u rfl (ow_y (yh_idx Tb (k := s4) rfl rfl rfl rfl (get_lt hy20) rfl rfl) rfl rfl (kk_wl ?_))
      refine wl_u rfl (ow_y (yh_loadAN Tb rfl rfl rfl rfl hc20 rfl) rfl rfl (kk_wl ?_))
      obtain ⟨x22, hx22, h⟩ := bd h
      refine wl_u rfl (ow_cV rfl hb27 rfl (fun w hw => c_spec_EventText N _ _ _ hx22 w) rfl rfl (kk_wl ?_))
      obtain ⟨t23_, zt23_, h⟩ := bd h
      refine wl_u rfl (ow_y (yh_addS zt23_ rfl rfl rfl) rfl rfl (kk_wl ?_))
      obtain ⟨t24_, zt24_, h⟩ := bd h
      refine wl_u rfl (ow_y (yh_addS zt24_ rfl rfl rfl) rfl rfl (kk_wl ?_))
      refine wl_u rfl (ow_y (yh_assign rfl rfl) rfl rfl (kk_wl ?_))
      refine wl_nil ?_
      refine ex_block_normal ?_
      refine ex_seq ?_
      refine cw_region ?_
      refine wl_u rfl (ow_y (yh_move rfl rfl) rfl rfl (kk_wl ?_))
      refine wl_u rfl (ow_y (yh_arI rfl rfl rfl rfl (by omega)) rfl rfl (kk_wl ?_))
      refine wl_u rfl (ow_y (yh_assign rfl rfl) rfl rfl (kk_wl ?_))
      refine wl_nil ?_
      exact ex_next [] (hn5 (n5, t24_, s4 + 1) (Nat.lt_succ_self _) h) ⟨rfl, rfl, rfl, trivial⟩ (by kernel_rfl)
    · skip
      replace h := bf cc2 h
      refine cw_exit ?_
      refine ex_then_exit ?_
      refine ex_then_exit ?_
      obtain rfl := Option.some.inj h
      have h := go_brk hk5
      refine ex_block_exit ?_
      refine ex_seq ?_
      refine cw_seq ?_
      refine cw_region ?_
      refine wl_u rfl (ow_y (yh_move rfl rfl) rfl rfl (kk_wl ?_))
      refine wl_u rfl (ow_y (yh_assign rfl rfl) rfl rfl (kk_wl ?_))
      refine wl_nil ?_
      refine ex_seq ?_
      refine cw_ret ?_
      obtain rfl := Option.some.inj h
      exact ex_r1 Tb rfl (.tmp rfl) (fun wq hq => ⟨_, rfl, hq.ext, rfl⟩)
  · skip
    replace h := bf cc1 h
    have q2 := ltb_false.1 cc1
    refine wl_n rfl rfl rfl rfl ?_
    refine wl_n rfl rfl rfl rfl ?_
    refine wl_u rfl (ow_y (yh_pickF rfl rfl rfl) rfl rfl (kk_wl ?_))
    refine wl_nil ?_
    refine ex_seq ?_
    refine cw_false rfl ?_
    refine cw_exit ?_
    refine ex_then_exit ?_
    refine ex_then_exit ?_
    obtain rfl := Option.some.inj h
    have h := go_brk hk5
    refine ex_block_exit ?_
    refine ex_seq ?_
    refine cw_seq ?_
    refine cw_region ?_
    refine wl_u rfl (ow_y (yh_move rfl rfl) rfl rfl (kk_wl ?_))
    refine wl_u rfl (ow_y (yh_assign rfl rfl) rfl rfl (kk_wl ?_))
    refine wl_nil ?_
    refine ex_seq ?_
    refine cw_ret ?_
    obtain rfl := Option.some.inj h
    exact ex_r1 Tb rfl (.tmp rfl) (fun wq hq => ⟨_, rfl, hq.ext, rfl⟩)

def m_impl_EventFrom_L14 (N : Nat) (s_ : Str) (x11 : List Str) (x20 : Int × Bool) : Nat → Nat → Option (Ex (Nat) (Int × Event × Bool))
  | 0, _ => none
  | n + 1, s8 => (bif leb ((s8 : Nat) : Int) 3 then (x11[2]?).bind fun y32 => (evWords[s8]?).bind fun y37 => (x11[1]?).bind fun y40 => (bif seq y37 y40 then (bif !(seq s_ (⟨#[]⟩ : Str)) then (m_impl_EventText N x20.1 (Event.mk ((s8 : Nat) : Int) y32)).bind fun x50 => (bif seq x50 s_ then some (Ex.ret (x20.1, (Event.mk ((s8 : Nat) : Int) y32), true))
 else m_impl_EventFrom_L14 N s_ x11 x20 n (s8 + 1))
 else m_impl_EventFrom_L14 N s_ x11 x20 n (s8 + 1))
 else m_impl_EventFrom_L14 N s_ x11 x20 n (s8 + 1))
 else some (Ex.brk (s8)))

def m_impl_EventFrom (N : Nat) (s_ : Str) : Option (Int × Event × Bool) := (m_strings_Split N s_ (⟨#[32]⟩ : Str)).bind fun x11 => (bif !(eqb ((x11.length : Nat) : Int) 4) then some (0, (Event.mk 0 (⟨#[]⟩ : Str)), false)
 else (x11[0]?).bind fun y18 => (m_strconv_Atoi N y18).bind fun x20 => (bif !x20.2 then some (0, (Event.mk 0 (⟨#[]⟩ : Str)), false)
 else (m_impl_EventFrom_L14 N s_ x11 x20 N 1).bind fun e14 => e14.go (fun r => r) fun b14 => some (0, (Event.mk 0 (⟨#[]⟩ : Str)), false)))

set_option maxHeartbeats 4000000 in
theorem c_impl_EventFrom (N : Nat) (s_ : Str) (res : Int × Event × Bool) (h : m_impl_EventFrom N s_ = some res) (w : World) (hG : globL.rd w [] [] ()) : Ret Tryd.prog 31 [.string s_] w [] fun v w' => v = .tuple #[.int .i64 res.1, .agg #[.int .i64 res.2.1.kind, .string res.2.1.name], .bool res.2.2] := by
  obtain ⟨a_ew, c_ew, hg_ew, hw_ew⟩ := glob_ew hG
  have mhw_ew := rd_max hw_ew
  unfold m_impl_EventFrom at h
  refine ret_enter Tryd.func31 rfl Tryd.ntmps31 rfl (Hp.refl w _) ?_
  refine cw_seq ?_
  refine cw_region ?_
  refine wl_u rfl (ow_y (yh_assign rfl rfl) rfl rfl (kk_wl ?_))
  refine wl_u rfl (ow_allocA Tb rfl rfl rfl rfl (fun g3 => kk_wl ?_))
  refine wl_u rfl (ow_y (yh_assign rfl rfl) rfl rfl (kk_wl ?_))
  refine wl_nil ?_
  refine ex_seq ?_
  refine cw_seq ?_
  refine cw_region ?_
  refine wl_u rfl (ow_y (yh_move rfl rfl) rfl rfl (kk_wl ?_))
  obtain ⟨x11, hx11, h⟩ := bd h
  refine wl_u rfl (ow_cN1 rfl hb47 rfl (fun w hw => c_strings_Split N _ _ _ hx11 w (Lay.at_ hG hw)) rfl rfl (fun a11 c11 F11 => kk_wl ?_))
  refine wl_u rfl (ow_y (yh_assign rfl rfl) rfl rfl (kk_wl ?_))
  refine wl_nil ?_
  refine ex_seq ?_
  refine cw_seq ?_
  refine cw_seq ?_
  refine cw_region ?_
  refine wl_u rfl (ow_y (yh_move rfl rfl) rfl rfl (kk_wl ?_))
  refine wl_know (x11.length ≤ 9223372036854775807) (fun w hw => own_max 0 rfl hw) (fun mo13 => ?_)
  refine wl_u rfl (ow_y (yh_lenS Tb rfl rfl rfl rfl) rfl rfl (kk_wl ?_))
  refine wl_u rfl (ow_y (yh_cmpI rfl rfl rfl rfl) rfl rfl (kk_wl ?_))
  refine wl_nil ?_
  refine ex_seq ?_
  refine cw_split rfl (fun cc1 => ?_) (fun cc1 => ?_)
  · skip
    replace h := bt cc1 h
    have q1 := eqb_false.1 (nt cc1)
    refine cw_seq ?_
    refine cw_region ?_
    refine wl_u rfl (ow_y (yh_build [.int .i64 0, .string (⟨#[]⟩ : Str)] rfl rfl (by kernel_rfl)) rfl rfl (kk_wl ?_))
    refine wl_u rfl (ow_y (yh_assign rfl rfl) rfl rfl (kk_wl ?_))
    refine wl_u rfl (ow_storeA Tb (k := 1) rfl rfl rfl rfl rfl rfl rfl rfl rfl (kk_wl ?_))
    refine wl_u rfl (ow_y (yh_assign rfl rfl) rfl rfl (kk_wl ?_))
    refine wl_nil ?_
    refine ex_seq ?_
    refine cw_ret ?_
    refine ex_then_ret ?_
    obtain rfl := Option.some.inj h
    exact ex_r3 Tb rfl (.tmp rfl) (.cellA 0 rfl rfl rfl rfl rfl) (.tmp rfl) (fun wq hq => ⟨_, rfl, hq.ext, rfl⟩)
  · skip
    replace h := bf cc1 h
    have q2 := eqb_true.1 (nf cc1)
    refine cw_skip ?_
    refine ex_seq ?_
    refine cw_seq ?_
    refine cw_region ?_
    refine wl_u rfl (ow_y (yh_move rfl rfl) rfl rfl (kk_wl ?_))
    obtain ⟨y18, hy18, h⟩ := bd h
    refine wl_ex (fun g => a11 = some ⟨g, 0, none⟩) (fun w hw => by exact own_addrK 0 rfl hy18 hw) (fun g18 hg18 => ?_)
    subst hg18
    refine wl_u rfl (ow_y (yh_idx Tb (k := 0) rfl rfl rfl rfl (get_lt hy18) rfl rfl) rfl rfl (kk_wl ?_))
    refine wl_u rfl (ow_y (yh_loadO0 Tb 0 rfl rfl rfl rfl rfl hy18 rfl) rfl rfl (kk_wl ?_))
    obtain ⟨x20, hx20, h⟩ := bd h
    refine wl_u rfl (ow_cE (fun z => .tuple #[.int .i64 x20.1, z]) x20.2 rfl hb48 rfl (fun w hw => c_strconv_Atoi N _ _ hx20 w (Lay.at_ hG hw)) rfl rfl (fun ze20 hze20 => kk_wl ?_))
    refine wl_u rfl (ow_y (yh_move rfl rfl) rfl rfl (kk_wl ?_))
    refine wl_u rfl (ow_y (yh_extract rfl rfl rfl) rfl rfl (kk_wl ?_))
    refine wl_u rfl (ow_y (yh_extract rfl rfl rfl) rfl rfl (kk_wl ?_))
    refine wl_u rfl (ow_y (yh_assign rfl rfl) rfl rfl (kk_wl ?_))
    refine wl_u rfl (ow_y (yh_assign rfl rfl) rfl rfl (kk_wl ?_))
    refine wl_nil ?_
    refine ex_seq ?_
    refine cw_seq ?_
    refine cw_seq ?_
    refine cw_region ?_
    refine wl_u rfl (ow_y (yh_move rfl rfl) rfl rfl (kk_wl ?_))
    refine wl_u rfl (ow_y (yh_errN hze20 rfl rfl (by kernel_rfl)) rfl rfl (kk_wl ?_))
    refine wl_nil ?_
    refine ex_seq ?_
    refine cw_split rfl (fun cc2 => ?_) (fun cc2 => ?_)
    · skip
      replace h := bt cc2 h
      refine cw_seq ?_
      refine cw_region ?_
      refine wl_u rfl (ow_y (yh_build [.int .i64 0, .string (⟨#[]⟩ : Str)] rfl rfl (by kernel_rfl)) rfl rfl (kk_wl ?_))
      refine wl_u rfl (ow_y (yh_assign rfl rfl) rfl rfl (kk_wl ?_))
      refine wl_u rfl (ow_storeA Tb (k := 1) rfl rfl rfl rfl rfl rfl rfl rfl rfl (kk_wl ?_))
      refine wl_u rfl (ow_y (yh_assign rfl rfl) rfl rfl (kk_wl ?_))
      refine wl_nil ?_
      refine ex_seq ?_
      refine cw_ret ?_
      refine ex_then_ret ?_
      obtain rfl := Option.some.inj h
      exact ex_r3 Tb rfl (.tmp rfl) (.cellA 0 rfl rfl rfl rfl rfl) (.tmp rfl) (fun wq hq => ⟨_, rfl, hq.ext, rfl⟩)
    · skip
      replace h := bf cc2 h
      refine cw_skip ?_
      refine ex_seq ?_
      refine cw_seq ?_
      refine cw_seq ?_
      refine cw_region ?_
      refine wl_u rfl (ow_y (yh_assign rfl rfl) rfl rfl (kk_wl ?_))
      refine wl_nil ?_
      refine ex_seq ?_
      refine cw_block ?_
      obtain ⟨e14, he14, hk14⟩ := bd h
      clear h
      refine cw_loopG (σ := Nat × Nat) (fun s => m_impl_EventFrom_L14 N s_ x11 x20 s.1 s.2 = some e14) (fun s => [(0, .string s_), (3, .pointer (some ⟨g3, 0, none⟩)), (5, .slice (some ⟨g18, 0, none⟩) x11.length c11), (6, .int .i64 x20.1), (8, .int .i64 ((s.2 : Nat) : Int))]) (fun s => [blkC g3 35 [.int .i64 0, .string (⟨#[]⟩ : Str)], owC strsL F11 [.slice (some ⟨g18, 0, none⟩) x11.length c11] x11]) (fun s => s.1) (N, 1) [1, 0] he14 ⟨rfl, rfl, rfl, rfl, rfl, trivial⟩ rfl (fun KL s he14 hn14 => ?_)
      obtain ⟨n14, s8⟩ := s
      simp only at he14 hn14 ⊢
      rcases n14 with _ | n14
      · exact nosome he14
      have h := he14; rw [m_impl_EventFrom_L14] at h
      refine cw_seq ?_
      refine cw_seq ?_
      refine cw_region ?_
      refine wl_u rfl (ow_y (yh_move rfl rfl) rfl rfl (kk_wl ?_))
      refine wl_u rfl (ow_y (yh_cmpI rfl rfl rfl rfl) rfl rfl (kk_wl ?_))
      refine wl_nil ?_
      refine ex_seq ?_
      refine cw_split rfl (fun cc3 => ?_) (fun cc3 => ?_)
      · skip
        replace h := bt cc3 h
        have q3 := leb_true.1 cc3
        refine cw_skip ?_
        refine ex_seq ?_
        refine cw_seq ?_
        refine cw_block ?_
        refine cw_seq ?_
        refine cw_region ?_
        refine wl_u rfl (ow_y (yh_move rfl rfl) rfl rfl (kk_wl ?_))
        refine wl_u rfl (ow_y (yh_move rfl rfl) rfl rfl (kk_wl ?_))
        obtain ⟨y32, hy32, h⟩ := bd h
        refine wl_u rfl (ow_y (yh_idx Tb (k := 2) rfl rfl rfl rfl (get_lt hy32) rfl rfl) rfl rfl (kk_wl ?_))
        refine wl_u rfl (ow_y (yh_loadO0 Tb 1 rfl rfl rfl rfl rfl hy32 rfl) rfl rfl (kk_wl ?_))
        refine wl_u rfl (ow_y (yh_buildA rfl rfl (by kernel_rfl)) rfl rfl (kk_wl ?_))
        refine wl_u rfl (ow_allocA Tb rfl rfl rfl rfl (fun g9 => kk_wl ?_))
        refine wl_u rfl (ow_storeA Tb (k := 0) rfl rfl rfl rfl rfl rfl rfl rfl rfl (kk_wl ?_))
        refine wl_nil ?_
        refine ex_seq ?_
        refine cw_seq ?_
        refine cw_dr [0, 1, 2, 3, 4, 5, 6, 7, 8, 9, 10, 11, 12, 13, 14, 16, 17, 18] [] [blkC g9 35 [.int .i64 ((s8 : Nat) : Int), .string y32], blkC g3 35 [.int .i64 0, .string (⟨#[]⟩ : Str)], owC strsL F11 [.slice (some ⟨g18, 0, none⟩) x11.length c11] x11] (by kernel_rfl) ?_
        refine wd_take (i := 0) [0, 1, 2] rfl rfl rfl rfl rfl (by kernel_rfl) (by kernel_rfl) (fun _ _ _ _ h => h) (yh_loadA0 Tb rfl rfl rfl hg_ew rfl) ?_
        refine wd_take (i := 1) [0, 1, 2] rfl rfl rfl rfl rfl (by kernel_rfl) (by kernel_rfl) (fun _ _ _ _ h => h) (yh_move rfl rfl) ?_
        obtain ⟨y37, hy37, h⟩ := bd h
        obtain ⟨b37, o37, ha37⟩ := sl_addr hw_ew hy37
        subst ha37
        have hc37 := get_str hw_ew hy37
        refine wd_take (i := 2) [0, 1, 2] rfl rfl rfl rfl rfl (by kernel_rfl) (by kernel_rfl) (fun _ _ _ _ h => h) (yh_idx Tb (k := s8) rfl rfl rfl rfl (get_lt hy37) rfl rfl) ?_
        refine wd_take (i := 3) [0, 1, 2] rfl rfl rfl rfl rfl (by kernel_rfl) (by kernel_rfl) (fun _ _ _ _ h => h) (yh_loadA0 Tb rfl rfl rfl hc37 rfl) ?_
        refine wd_take (i := 4) [0, 1, 2] rfl rfl rfl rfl rfl (by kernel_rfl) (by kernel_rfl) (fun _ _ _ _ h => h) (yh_move rfl rfl) ?_
        obtain ⟨y40, hy40, h⟩ := bd h
        refine wd_take (i := 5) [0, 1, 2] rfl rfl rfl rfl rfl (by kernel_rfl) (by kernel_rfl) (fun _ _ _ _ h => h) (yh_idx Tb (k := 1) rfl rfl rfl rfl (get_lt hy40) rfl rfl) ?_
        refine wd_take (i := 6) [0, 1, 2] rfl rfl rfl rfl rfl (by kernel_rfl) (by kernel_rfl) (fun _ _ _ _ h => h) (yh_loadO0 Tb 2 rfl rfl rfl rfl rfl hy40 rfl) ?_
        refine wd_take (i := 7) [0, 1, 2] rfl rfl rfl rfl rfl (by kernel_rfl) (by kernel_rfl) (fun _ _ _ _ h => h) (yh_cmpS rfl rfl rfl rfl) ?_
        refine wd_take (i := 8) [0, 1, 2] rfl rfl rfl rfl rfl (by kernel_rfl) (by kernel_rfl) (fun _ _ _ _ h => h) (yh_move rfl rfl) ?_
        refine wd_split 9 rfl rfl rfl (fun cc4 => ?_) (fun cc4 => ?_)
        · skip
          replace h := bt cc4 h
          refine wd_take (i := 9) [0, 1, 2] rfl rfl rfl rfl rfl (by kernel_rfl) (by kernel_rfl) (fun _ _ _ _ h => h) (yh_move rfl rfl) ?_
          refine wd_take (i := 10) [0, 1, 2] rfl rfl rfl rfl rfl (by kernel_rfl) (by kernel_rfl) (fun _ _ _ _ h => h) (yh_cmpS rfl rfl rfl rfl) ?_
          refine wd_take (i := 11) [0, 1, 2] rfl rfl rfl rfl rfl (by kernel_rfl) (by kernel_rfl) (fun _ _ _ _ h => h) (yh_pickT rfl rfl rfl) ?_
          refine wd_take (i := 12) [0, 1, 2] rfl rfl rfl rfl rfl (by kernel_rfl) (by kernel_rfl) (fun _ _ _ _ h => h) (yh_move rfl rfl) ?_
          refine wd_split 13 rfl rfl rfl (fun cc5 => ?_) (fun cc5 => ?_)
          · skip
            replace h := bt cc5 h
            refine wd_take (i := 13) [0, 1, 2] rfl rfl rfl rfl rfl (by kernel_rfl) (by kernel_rfl) (fun _ _ _ _ h => h) (yh_move rfl rfl) ?_
            refine wd_take (i := 14) [0, 1, 2] rfl rfl rfl rfl rfl (by kernel_rfl) (by kernel_rfl) (fun _ _ _ _ h => h) (yh_loadBA Tb (k := 0) rfl rfl rfl rfl rfl rfl) ?_
            refine wd_take (i := 16) [0, 1, 2] rfl rfl rfl rfl rfl (by kernel_rfl) (by kernel_rfl) (fun _ _ _ _ h => h) (yh_move rfl rfl) ?_
            obtain ⟨x50, hx50, h⟩ := bd h
            refine wd_one 15 rfl rfl (by kernel_rfl) (ow_cV rfl hb20 rfl (fun w hw => c_impl_EventText N _ _ _ hx50 w (Lay.at_ hG hw)) rfl rfl (kk_wd [0, 1, 2] (by kernel_rfl) ?_))
            refine wd_take (i := 17) [0, 1, 2] rfl rfl rfl rfl rfl (by kernel_rfl) (by kernel_rfl) (fun _ _ _ _ h => h) (yh_cmpS rfl rfl rfl rfl) ?_
            refine wd_take (i := 18) [0, 1, 2] rfl rfl rfl rfl rfl (by kernel_rfl) (by kernel_rfl) (fun _ _ _ _ h => h) (yh_pickT rfl rfl rfl) ?_
            refine wd_done (by kernel_rfl) ?_
            refine ex_seq ?_
            refine cw_split rfl (fun cc6 => ?_) (fun cc6 => ?_)
            · skip
              replace h := bt cc6 h
              refine cw_seq ?_
              refine cw_dr [0, 1, 2] [3, 4] [blkC g9 35 [.int .i64 ((s8 : Nat) : Int), .string y32], blkC g3 35 [.int .i64 0, .string (⟨#[]⟩ : Str)], owC strsL F11 [.slice (some ⟨g18, 0, none⟩) x11.length c11] x11] (by kernel_rfl) ?_
              refine wd_take (i := 0) [0, 1, 2] rfl rfl rfl rfl rfl (by kernel_rfl) (by kernel_rfl) (fun _ _ _ _ h => h) (yh_move rfl rfl) ?_
              refine wd_take (i := 1) [0, 1, 2] rfl rfl rfl rfl rfl (by kernel_rfl) (by kernel_rfl) (fun _ _ _ _ h => h) (yh_loadBA Tb (k := 0) rfl rfl rfl rfl rfl rfl) ?_
              refine wd_take (i := 2) [0, 1, 2] rfl rfl rfl rfl rfl (by kernel_rfl) (by kernel_rfl) (fun _ _ _ _ h => h) (yh_assign rfl rfl) ?_
              refine wd_one 3 rfl rfl (by kernel_rfl) (ow_storeA Tb (k := 1) rfl rfl rfl rfl rfl rfl rfl rfl rfl (kk_wdT rfl ?_))
              refine wd_one 4 rfl rfl (by kernel_rfl) (ow_y (yh_assign rfl rfl) rfl rfl (kk_wdT rfl ?_))
              refine wd_done (by kernel_rfl) ?_
              refine ex_seq ?_
              refine cw_ret ?_
              refine ex_block_ret ?_
              refine ex_then_ret ?_
              refine ex_then_ret ?_
              refine ex_block_ret ?_
              refine ex_then_ret ?_
              obtain rfl := Option.some.inj h
              obtain rfl := go_ret hk14
              exact ex_r3 Tb rfl (.tmp rfl) (.cellA 0 rfl rfl rfl rfl rfl) (.tmp rfl) (fun wq hq => ⟨_, rfl, hq.ext, rfl⟩)
            · skip
              replace h := bf cc6 h
              refine cw_skip ?_
              refine ex_block_normal ?_
              refine ex_seq ?_
              refine cw_region ?_
              refine wl_u rfl (ow_y (yh_move rfl rfl) rfl rfl (kk_wl ?_))
              refine wl_u rfl (ow_y (yh_arI rfl rfl rfl rfl (by omega)) rfl rfl (kk_wl ?_))
              refine wl_u rfl (ow_y (yh_assign rfl rfl) rfl rfl (kk_wl ?_))
              refine wl_nil ?_
              exact ex_next [1, 2] (hn14 (n14, s8 + 1) (Nat.lt_succ_self _) h) ⟨rfl, rfl, rfl, rfl, rfl, trivial⟩ (by kernel_rfl)
          · skip
            replace h := bf cc5 h
            refine wd_skip (i := 13) [0, 1, 2] rfl rfl rfl rfl (by kernel_rfl) (by kernel_rfl) (fun _ _ _ h => h) ?_
            refine wd_skip (i := 14) [0, 1, 2] rfl rfl rfl rfl (by kernel_rfl) (by kernel_rfl) (fun _ _ _ h => h) ?_
            refine wd_skip (i := 16) [0, 1, 2] rfl rfl rfl rfl (by kernel_rfl) (by kernel_rfl) (fun _ _ _ h => h) ?_
            refine wd_offD 15 rfl rfl rfl rfl (by kernel_rfl) [0, 1, 2] (fun _ => rfl) ?_
            refine wd_skip (i := 17) [0, 1, 2] rfl rfl rfl rfl (by kernel_rfl) (by kernel_rfl) (fun _ _ _ h => h) ?_
            refine wd_take (i := 18) [0, 1, 2] rfl rfl rfl rfl rfl (by kernel_rfl) (by kernel_rfl) (fun _ _ _ _ h => h) (yh_pickF rfl rfl rfl) ?_
            refine wd_done (by kernel_rfl) ?_
            refine ex_seq ?_
            refine cw_false rfl ?_
            refine cw_skip ?_
            refine ex_block_normal ?_
            refine ex_seq ?_
            refine cw_region ?_
            refine wl_u rfl (ow_y (yh_move rfl rfl) rfl rfl (kk_wl ?_))
            refine wl_u rfl (ow_y (yh_arI rfl rfl rfl rfl (by omega)) rfl rfl (kk_wl ?_))
            refine wl_u rfl (ow_y (yh_assign rfl rfl) rfl rfl (kk_wl ?_))
            refine wl_nil ?_
            exact ex_next [1, 2] (hn14 (n14, s8 + 1) (Nat.lt_succ_self _) h) ⟨rfl, rfl, rfl, rfl, rfl, trivial⟩ (by kernel_rfl)
        · skip
          replace h := bf cc4 h
          refine wd_skip (i := 9) [0, 1, 2] rfl rfl rfl rfl (by kernel_rfl) (by kernel_rfl) (fun _ _ _ h => h) ?_
          refine wd_skip (i := 10) [0, 1, 2] rfl rfl rfl rfl (by kernel_rfl) (by kernel_rfl) (fun _ _ _ h => h) ?_
          refine wd_take (i := 11) [0, 1, 2] rfl rfl rfl rfl rfl (by kernel_rfl) (by kernel_rfl) (fun _ _ _ _ h => h) (yh_pickF rfl rfl rfl) ?_
          refine wd_take (i := 12) [0, 1, 2] rfl rfl rfl rfl rfl (by kernel_rfl) (by kernel_rfl) (fun _ _ _ _ h => h) (yh_move rfl rfl) ?_
          refine wd_split 13 rfl rfl rfl nofun (fun _ => ?_)
          refine wd_skip (i := 13) [0, 1, 2] rfl rfl rfl rfl (by kernel_rfl) (by kernel_rfl) (fun _ _ _ h => h) ?_
          refine wd_skip (i := 14) [0, 1, 2] rfl rfl rfl rfl (by kernel_rfl) (by kernel_rfl) (fun _ _ _ h => h) ?_
          refine wd_skip (i := 16) [0, 1, 2] rfl rfl rfl rfl (by kernel_rfl) (by kernel_rfl) (fun _ _ _ h => h) ?_
          refine wd_offD 15 rfl rfl rfl rfl (by kernel_rfl) [0, 1, 2] (fun _ => rfl) ?_
          refine wd_skip (i := 17) [0, 1, 2] rfl rfl rfl rfl (by kernel_rfl) (by kernel_rfl) (fun _ _ _ h => h) ?_
          refine wd_take (i := 18) [0, 1, 2] rfl rfl rfl rfl rfl (by kernel_rfl) (by kernel_rfl) (fun _ _ _ _ h => h) (yh_pickF rfl rfl rfl) ?_
          refine wd_done (by kernel_rfl) ?_
          refine ex_seq ?_
          refine cw_false rfl ?_
          refine cw_skip ?_
          refine ex_block_normal ?_
          refine ex_seq ?_
          refine cw_region ?_
          refine wl_u rfl (ow_y (yh_move rfl rfl) rfl rfl (kk_wl ?_))
          refine wl_u rfl (ow_y (yh_arI rfl rfl rfl rfl (by omega)) rfl rfl (kk_wl ?_))
          refine wl_u rfl (ow_y (yh_assign rfl rfl) rfl rfl (kk_wl ?_))
          refine wl_nil ?_
          exact ex_next [1, 2] (hn14 (n14, s8 + 1) (Nat.lt_succ_self _) h) ⟨rfl, rfl, rfl, rfl, rfl, trivial⟩ (by kernel_rfl)
      · skip
        replace h := bf cc3 h
        have q4 := leb_false.1 cc3
        refine cw_exit ?_
        refine ex_then_exit ?_
        refine ex_then_exit ?_
        obtain rfl := Option.some.inj h
        have h := go_brk hk14
        refine ex_block_exit ?_
        refine ex_seq ?_
        refine cw_seq ?_
        refine cw_region ?_
        refine wl_u rfl (ow_y (yh_build [.int .i64 0, .string (⟨#[]⟩ : Str)] rfl rfl (by kernel_rfl)) rfl rfl (kk_wl ?_))
        refine wl_u rfl (ow_y (yh_assign rfl rfl) rfl rfl (kk_wl ?_))
        refine wl_u rfl (ow_storeA Tb (k := 0) rfl rfl rfl rfl rfl rfl rfl rfl rfl (kk_wl ?_))
        refine wl_u rfl (ow_y (yh_assign rfl rfl) rfl rfl (kk_wl ?_))
        refine wl_nil ?_
        refine ex_seq ?_
        refine cw_ret ?_
        obtain rfl := Option.some.inj h
        exact ex_r3 Tb rfl (.tmp rfl) (.cellA 0 rfl rfl rfl rfl rfl) (.tmp rfl) (fun wq hq => ⟨_, rfl, hq.ext, rfl⟩)

def m_impl_JournalFrom_L4 (N : Nat) (text : Str) : Nat → (List Event) → Int → Option (Ex (List Event × Int) (List Event × Int × Int))
  | 0, _, _ => none
  | n + 1, s5, s6 => (ssub text s6 ((text.size : Nat) : Int)).bind fun u16 => (bif seq u16 (⟨#[]⟩ : Str) then some (Ex.ret (s5, s6, 0))
 else (m_strings_Cut N u16 (⟨#[10]⟩ : Str)).bind fun x23 => (bif !x23.2.2 then some (Ex.ret (s5, s6, 1))
 else (m_impl_EventFrom N x23.1).bind fun x33 => (bif !x33.2.2 then some (Ex.ret (s5, s6, 2))
 else (lsz s5.length).bind fun v43_ => (bif !(eqb x33.1 (((s5.length : Nat) : Int) + 1)) then some (Ex.ret (s5, s6, 2))
 else (appd s5 ([x33.2.1] : List Event)).bind fun l51 => (ssz x23.1).bind fun z54 => (lsz x23.1.size).bind fun v55_ => m_impl_JournalFrom_L4 N text n (s5 ++ ([x33.2.1] : List Event)) (w64 (s6 + (((x23.1.size : Nat) : Int) + 1)))))))

def m_impl_JournalFrom (N : Nat) (text : Str) : Option (List Event × Int × Int) := (m_impl_JournalFrom_L4 N text N ([] : List Event) 0).bind fun e4 => e4.go (fun r => r) fun b4 => none

set_option maxHeartbeats 4000000 in
theorem c_impl_JournalFrom (N : Nat) (text : Str) (res : List Event × Int × Int) (h : m_impl_JournalFrom N text = some res) (w : World) (hG : globL.rd w [] [] ()) : Ret Tryd.prog 13 [.string text] w [] fun v w' => ∃ a1 c1 F1, v = .tuple #[.slice a1 res.1.length c1, .int .i64 res.2.1, .int .i64 res.2.2] ∧ NewC w w' [owC eventsL F1 [.slice a1 res.1.length c1] res.1] := by
  unfold m_impl_JournalFrom at h
  refine ret_enter Tryd.func13 rfl Tryd.ntmps13 rfl (Hp.refl w _) ?_
  refine cw_seq ?_
  refine cw_region ?_
  refine wl_u rfl (ow_y (yh_assign rfl rfl) rfl rfl (kk_wl ?_))
  refine wl_u rfl (ow_y (yh_assign rfl rfl) rfl rfl (kk_wl ?_))
  refine wl_u rfl (ow_y (yh_assign rfl rfl) rfl rfl (kk_wl ?_))
  refine wl_nil ?_
  refine ex_seq ?_
  refine cw_seq ?_
  refine cw_region ?_
  refine wl_u rfl (ow_y (yh_assign rfl rfl) rfl rfl (kk_wl ?_))
  refine wl_nil ?_
  refine ex_seq ?_
  refine cw_seq ?_
  refine cw_region ?_
  refine wl_u rfl (ow_y (yh_assign rfl rfl) rfl rfl (kk_wl ?_))
  refine wl_nil ?_
  refine ex_seq ?_
  refine cw_block ?_
  obtain ⟨e4, he4, hk4⟩ := bd h
  clear h
  refine cw_nilS eventsL rfl ?_
  refine cw_loopG (σ := Nat × (List Event) × Int × (Option Addr) × Nat × (List Nat)) (fun s => m_impl_JournalFrom_L4 N text s.1 s.2.1 s.2.2.1 = some e4) (fun s => [(0, .string text), (5, .slice s.2.2.2.1 s.2.1.length s.2.2.2.2.1), (6, .int .i64 s.2.2.1)]) (fun s => [owC eventsL s.2.2.2.2.2 [.slice s.2.2.2.1 s.2.1.length s.2.2.2.2.1] s.2.1]) (fun s => s.1) (N, ([] : List Event), 0, none, 0, []) [0] he4 ⟨rfl, rfl, rfl, trivial⟩ rfl (fun KL s he4 hn4 => ?_)
  obtain ⟨n4, s5, s6, as5, cs5, Fs5⟩ := s
  simp only at he4 hn4 ⊢
  rcases n4 with _ | n4
  · exact nosome he4
  have h := he4; rw [m_impl_JournalFrom_L4] at h
  refine cw_block ?_
  refine cw_seq ?_
  refine cw_region ?_
  refine wl_u rfl (ow_y (yh_move rfl rfl) rfl rfl (kk_wl ?_))
  refine wl_u rfl (ow_y (yh_move rfl rfl) rfl rfl (kk_wl ?_))
  obtain ⟨u16, zu16, h⟩ := bd h
  refine wl_u rfl (ow_y (yh_strL zu16 rfl rfl rfl (by kernel_rfl)) rfl rfl (kk_wl ?_))
  refine wl_u rfl (ow_y (yh_assign rfl rfl) rfl rfl (kk_wl ?_))
  refine wl_nil ?_
  refine ex_seq ?_
  refine cw_seq ?_
  refine cw_seq ?_
  refine cw_region ?_
  refine wl_u rfl (ow_y (yh_move rfl rfl) rfl rfl (kk_wl ?_))
  refine wl_u rfl (ow_y (yh_cmpS rfl rfl rfl rfl) rfl rfl (kk_wl ?_))
  refine wl_nil ?_
  refine ex_seq ?_
  refine cw_split rfl (fun cc1 => ?_) (fun cc1 => ?_)
  · skip
    replace h := bt cc1 h
    refine cw_seq ?_
    refine cw_region ?_
    refine wl_u rfl (ow_y (yh_move rfl rfl) rfl rfl (kk_wl ?_))
    refine wl_u rfl (ow_y (yh_move rfl rfl) rfl rfl (kk_wl ?_))
    refine wl_u rfl (ow_y (yh_assign rfl rfl) rfl rfl (kk_wl ?_))
    refine wl_u rfl (ow_y (yh_assign rfl rfl) rfl rfl (kk_wl ?_))
    refine wl_u rfl (ow_y (yh_assign rfl rfl) rfl rfl (kk_wl ?_))
    refine wl_nil ?_
    refine ex_seq ?_
    refine cw_ret ?_
    refine ex_then_ret ?_
    refine ex_block_ret ?_
    refine ex_then_ret ?_
    refine ex_block_ret ?_
    obtain rfl := Option.some.inj h
    obtain rfl := go_ret hk4
    exact ex_r3 Tb rfl (.tmp rfl) (.tmp rfl) (.tmp rfl) (fun wq hq => ⟨_, rfl, hq.ext, ⟨as5, cs5, Fs5, rfl, NewC.sel [0] hq rfl⟩⟩)
  · skip
    replace h := bf cc1 h
    refine cw_skip ?_
    refine ex_seq ?_
    refine cw_seq ?_
    refine cw_region ?_
    refine wl_u rfl (ow_y (yh_move rfl rfl) rfl rfl (kk_wl ?_))
    obtain ⟨x23, hx23, h⟩ := bd h
    refine wl_u rfl (ow_cV rfl hb30 rfl (fun w hw => c_strings_Cut N _ _ _ hx23 w (Lay.at_ hG hw)) rfl rfl (kk_wl ?_))
    refine wl_u rfl (ow_y (yh_move rfl rfl) rfl rfl (kk_wl ?_))
    refine wl_u rfl (ow_y (yh_extract rfl rfl rfl) rfl rfl (kk_wl ?_))
    refine wl_u rfl (ow_y (yh_extract rfl rfl rfl) rfl rfl (kk_wl ?_))
    refine wl_u rfl (ow_y (yh_extract rfl rfl rfl) rfl rfl (kk_wl ?_))
    refine wl_u rfl (ow_y (yh_assign rfl rfl) rfl rfl (kk_wl ?_))
    refine wl_u rfl (ow_y (yh_assign rfl rfl) rfl rfl (kk_wl ?_))
    refine wl_u rfl (ow_y (yh_assign rfl rfl) rfl rfl (kk_wl ?_))
    refine wl_nil ?_
    refine ex_seq ?_
    refine cw_seq ?_
    refine cw_seq ?_
    refine cw_region ?_
    refine wl_u rfl (ow_y (yh_move rfl rfl) rfl rfl (kk_wl ?_))
    refine wl_u rfl (ow_y (yh_not rfl rfl) rfl rfl (kk_wl ?_))
    refine wl_nil ?_
    refine ex_seq ?_
    refine cw_split rfl (fun cc2 => ?_) (fun cc2 => ?_)
    · skip
      replace h := bt cc2 h
      refine cw_seq ?_
      refine cw_region ?_
      refine wl_u rfl (ow_y (yh_move rfl rfl) rfl rfl (kk_wl ?_))
      refine wl_u rfl (ow_y (yh_move rfl rfl) rfl rfl (kk_wl ?_))
      refine wl_u rfl (ow_y (yh_assign rfl rfl) rfl rfl (kk_wl ?_))
      refine wl_u rfl (ow_y (yh_assign rfl rfl) rfl rfl (kk_wl ?_))
      refine wl_u rfl (ow_y (yh_assign rfl rfl) rfl rfl (kk_wl ?_))
      refine wl_nil ?_
      refine ex_seq ?_
      refine cw_ret ?_
      refine ex_then_ret ?_
      refine ex_block_ret ?_
      refine ex_then_ret ?_
      refine ex_block_ret ?_
      obtain rfl := Option.some.inj h
      obtain rfl := go_ret hk4
      exact ex_r3 Tb rfl (.tmp rfl) (.tmp rfl) (.tmp rfl) (fun wq hq => ⟨_, rfl, hq.ext, ⟨as5, cs5, Fs5, rfl, NewC.sel [0] hq rfl⟩⟩)
    · skip
      replace h := bf cc2 h
      refine cw_skip ?_
      refine ex_seq ?_
      refine cw_seq ?_
      refine cw_region ?_
      refine wl_u rfl (ow_y (yh_move rfl rfl) rfl rfl (kk_wl ?_))
      obtain ⟨x33, hx33, h⟩ := bd h
      refine wl_u rfl (ow_cV rfl hb31 rfl (fun w hw => c_impl_EventFrom N _ _ hx33 w (Lay.at_ hG hw)) rfl rfl (kk_wl ?_))
      refine wl_u rfl (ow_y (yh_move rfl rfl) rfl rfl (kk_wl ?_))
      refine wl_u rfl (ow_y (yh_extract rfl rfl rfl) rfl rfl (kk_wl ?_))
      refine wl_u rfl (ow_y (yh_extract rfl rfl rfl) rfl rfl (kk_wl ?_))
      refine wl_u rfl (ow_y (yh_extract rfl rfl rfl) rfl rfl (kk_wl ?_))
      refine wl_u rfl (ow_allocA Tb rfl rfl rfl rfl (fun g12 => kk_wl ?_))
      refine wl_u rfl (ow_y (yh_assign rfl rfl) rfl rfl (kk_wl ?_))
      refine wl_u rfl (ow_storeA Tb (k := 0) rfl rfl rfl rfl rfl rfl rfl rfl rfl (kk_wl ?_))
      refine wl_u rfl (ow_y (yh_assign rfl rfl) rfl rfl (kk_wl ?_))
      refine wl_nil ?_
      refine ex_seq ?_
      refine cw_seq ?_
      refine cw_seq ?_
      refine cw_region ?_
      refine wl_u rfl (ow_y (yh_move rfl rfl) rfl rfl (kk_wl ?_))
      refine wl_u rfl (ow_y (yh_not rfl rfl) rfl rfl (kk_wl ?_))
      refine wl_u rfl (ow_y (yh_move rfl rfl) rfl rfl (kk_wl ?_))
      refine wl_s rfl rfl (fun cc3 => ?_) (fun cc3 => ?_)
      · skip
        replace h := bt cc3 h
        refine wl_n rfl rfl rfl rfl ?_
        refine wl_n rfl rfl rfl rfl ?_
        refine wl_n rfl rfl rfl rfl ?_
        refine wl_n rfl rfl rfl rfl ?_
        refine wl_n rfl rfl rfl rfl ?_
        refine wl_u rfl (ow_y (yh_pickT rfl rfl rfl) rfl rfl (kk_wl ?_))
        refine wl_nil ?_
        refine ex_seq ?_
        refine cw_true rfl ?_
        refine cw_seq ?_
        refine cw_region ?_
        refine wl_u rfl (ow_y (yh_move rfl rfl) rfl rfl (kk_wl ?_))
        refine wl_u rfl (ow_y (yh_move rfl rfl) rfl rfl (kk_wl ?_))
        refine wl_u rfl (ow_y (yh_assign rfl rfl) rfl rfl (kk_wl ?_))
        refine wl_u rfl (ow_y (yh_assign rfl rfl) rfl rfl (kk_wl ?_))
        refine wl_u rfl (ow_y (yh_assign rfl rfl) rfl rfl (kk_wl ?_))
        refine wl_nil ?_
        refine ex_seq ?_
        refine cw_ret ?_
        refine ex_then_ret ?_
        refine ex_block_ret ?_
        refine ex_then_ret ?_
        refine ex_block_ret ?_
        obtain rfl := Option.some.inj h
        obtain rfl := go_ret hk4
        exact ex_r3 Tb rfl (.tmp rfl) (.tmp rfl) (.tmp rfl) (fun wq hq => ⟨_, rfl, hq.ext, ⟨as5, cs5, Fs5, rfl, NewC.sel [1] hq rfl⟩⟩)
      · skip
        replace h := bf cc3 h
        refine wl_g rfl rfl (ow_y (yh_move rfl rfl) rfl rfl (kk_wl ?_))
        refine wl_g rfl rfl (ow_y (yh_move rfl rfl) rfl rfl (kk_wl ?_))
        refine wl_know (s5.length ≤ 9223372036854775807) (fun w hw => own_max 1 rfl hw) (fun mo42 => ?_)
        refine wl_g rfl rfl (ow_y (yh_lenS Tb rfl rfl rfl rfl) rfl rfl (kk_wl ?_))
        obtain ⟨v43_, hv43_, h⟩ := bd h
        have mv43_ := lsz_some hv43_
        refine wl_g rfl rfl (ow_y (yh_arI rfl rfl rfl rfl (by omega)) rfl rfl (kk_wl ?_))
        refine wl_g rfl rfl (ow_y (yh_cmpI rfl rfl rfl rfl) rfl rfl (kk_wl ?_))
        refine wl_u rfl (ow_y (yh_pickF rfl rfl rfl) rfl rfl (kk_wl ?_))
        refine wl_nil ?_
        refine ex_seq ?_
        refine cw_split rfl (fun cc4 => ?_) (fun cc4 => ?_)
        · skip
          replace h := bt cc4 h
          have q1 := eqb_false.1 (nt cc4)
          refine cw_seq ?_
          refine cw_region ?_
          refine wl_u rfl (ow_y (yh_move rfl rfl) rfl rfl (kk_wl ?_))
          refine wl_u rfl (ow_y (yh_move rfl rfl) rfl rfl (kk_wl ?_))
          refine wl_u rfl (ow_y (yh_assign rfl rfl) rfl rfl (kk_wl ?_))
          refine wl_u rfl (ow_y (yh_assign rfl rfl) rfl rfl (kk_wl ?_))
          refine wl_u rfl (ow_y (yh_assign rfl rfl) rfl rfl (kk_wl ?_))
          refine wl_nil ?_
          refine ex_seq ?_
          refine cw_ret ?_
          refine ex_then_ret ?_
          refine ex_block_ret ?_
          refine ex_then_ret ?_
          refine ex_block_ret ?_
          obtain rfl := Option.some.inj h
          obtain rfl := go_ret hk4
          exact ex_r3 Tb rfl (.tmp rfl) (.tmp rfl) (.tmp rfl) (fun wq hq => ⟨_, rfl, hq.ext, ⟨as5, cs5, Fs5, rfl, NewC.sel [1] hq rfl⟩⟩)
        · skip
          replace h := bf cc4 h
          have q2 := eqb_true.1 (nf cc4)
          refine cw_skip ?_
          refine ex_seq ?_
          refine cw_seq ?_
          refine cw_region ?_
          refine wl_u rfl (ow_y (yh_move rfl rfl) rfl rfl (kk_wl ?_))
          refine wl_u rfl (ow_y (yh_loadBA Tb (k := 0) rfl rfl rfl rfl rfl rfl) rfl rfl (kk_wl ?_))
          refine wl_u rfl (ow_litA Tb rfl rfl rfl rfl rfl rfl (by decide) rfl rfl (fun g50 => kk_chg (c' := owC eventsL [g50] [.slice (some ⟨g50, 0, none⟩) 1 1] ([x33.2.1] : List Event)) 0 rfl (fun w hA => own_eventsL ([x33.2.1] : List Event) hA rfl (by simp [maxLen])) rfl (kk_wl ?_)))
          obtain ⟨hll51, h⟩ := bd_appd h
          refine wl_u rfl (ow_appP Tb (i := 2) rfl rfl rfl rfl rfl (fun w hw => rdo (A := eventsL) 0 rfl hw) rfl rfl rfl rfl hll51 (by decide) rfl rfl (fun a51 c51 F51 => kk_wl ?_))
          refine wl_u rfl (ow_y (yh_assign rfl rfl) rfl rfl (kk_wl ?_))
          refine wl_nil ?_
          refine ex_seq ?_
          refine cw_region ?_
          refine wl_u rfl (ow_y (yh_move rfl rfl) rfl rfl (kk_wl ?_))
          refine wl_u rfl (ow_y (yh_move rfl rfl) rfl rfl (kk_wl ?_))
          obtain ⟨z54, hz54, h⟩ := bd h
          have mz54 := ssz_some hz54
          refine wl_u rfl (ow_y (yh_lenT Tb rfl rfl rfl rfl) rfl rfl (kk_wl ?_))
          obtain ⟨v55_, hv55_, h⟩ := bd h
          have mv55_ := lsz_some hv55_
          refine wl_u rfl (ow_y (yh_arI rfl rfl rfl rfl (by omega)) rfl rfl (kk_wl ?_))
          refine wl_u rfl (ow_y (yh_arW rfl rfl rfl rfl) rfl rfl (kk_wl ?_))
          refine wl_u rfl (ow_y (yh_assign rfl rfl) rfl rfl (kk_wl ?_))
          refine wl_nil ?_
          refine ex_block_normal ?_
          exact ex_next [0] (hn4 (n4, (s5 ++ ([x33.2.1] : List Event)), w64 (s6 + (((x23.1.size : Nat) : Int) + 1)), a51, c51, F51) (Nat.lt_succ_self _) h) ⟨rfl, rfl, rfl, trivial⟩ (by kernel_rfl)

def m_laws_sameEvents_L8 (N : Nat) (a : List Event) (b : List Event) : Nat → Nat → Option (Ex (Nat) (Bool))
  | 0, _ => none
  | n + 1, s5 => (bif ltb ((s5 : Nat) : Int) ((a.length : Nat) : Int) then (a[s5]?).bind fun y19 => (b[s5]?).bind fun y23 => (bif !((eqb y19.kind y23.kind) && (seq y19.name y23.name)) then some (Ex.ret false)
 else m_laws_sameEvents_L8 N a b n (s5 + 1))
 else some (Ex.brk (s5)))

def m_laws_sameEvents (N : Nat) (a : List Event) (b : List Event) : Option (Bool) := (bif !(eqb ((a.length : Nat) : Int) ((b.length : Nat) : Int)) then some false
 else (m_laws_sameEvents_L8 N a b N 0).bind fun e8 => e8.go (fun r => r) fun b8 => some true)

set_option maxHeartbeats 4000000 in
theorem c_laws_sameEvents (N : Nat) (a : List Event) (b : List Event) (res : Bool) (h : m_laws_sameEvents N a b = some res) (w : World) {a_a a_b : Option Addr} {c_a c_b : Nat} (h_a : eventsL.rd w [] [.slice a_a a.length c_a] a) (h_b : eventsL.rd w [] [.slice a_b b.length c_b] b) : Ret Tryd.prog 14 [.slice a_a a.length c_a, .slice a_b b.length c_b] w [] fun v w' => v = .bool res := by
  have mh_a := rd_max h_a
  have mh_b := rd_max h_b
  unfold m_laws_sameEvents at h
  refine ret_enter Tryd.func14 rfl Tryd.ntmps14 rfl (Hp.refl w _) ?_
  refine cw_seq ?_
  refine cw_region ?_
  refine wl_u rfl (ow_y (yh_assign rfl rfl) rfl rfl (kk_wl ?_))
  refine wl_nil ?_
  refine ex_seq ?_
  refine cw_seq ?_
  refine cw_seq ?_
  refine cw_region ?_
  refine wl_u rfl (ow_y (yh_move rfl rfl) rfl rfl (kk_wl ?_))
  refine wl_u rfl (ow_y (yh_lenS Tb rfl rfl rfl rfl) rfl rfl (kk_wl ?_))
  refine wl_u rfl (ow_y (yh_move rfl rfl) rfl rfl (kk_wl ?_))
  refine wl_u rfl (ow_y (yh_lenS Tb rfl rfl rfl rfl) rfl rfl (kk_wl ?_))
  refine wl_u rfl (ow_y (yh_cmpI rfl rfl rfl rfl) rfl rfl (kk_wl ?_))
  refine wl_nil ?_
  refine ex_seq ?_
  refine cw_split rfl (fun cc1 => ?_) (fun cc1 => ?_)
  · skip
    replace h := bt cc1 h
    have q1 := eqb_false.1 (nt cc1)
    refine cw_seq ?_
    refine cw_region ?_
    refine wl_u rfl (ow_y (yh_assign rfl rfl) rfl rfl (kk_wl ?_))
    refine wl_nil ?_
    refine ex_seq ?_
    refine cw_ret ?_
    refine ex_then_ret ?_
    obtain rfl := Option.some.inj h
    exact ex_r1 Tb rfl (.tmp rfl) (fun wq hq => ⟨_, rfl, hq.ext, rfl⟩)
  · skip
    replace h := bf cc1 h
    have q2 := eqb_true.1 (nf cc1)
    refine cw_skip ?_
    refine ex_seq ?_
    refine cw_seq ?_
    refine cw_seq ?_
    refine cw_region ?_
    refine wl_u rfl (ow_y (yh_assign rfl rfl) rfl rfl (kk_wl ?_))
    refine wl_nil ?_
    refine ex_seq ?_
    refine cw_block ?_
    obtain ⟨e8, he8, hk8⟩ := bd h
    clear h
    refine cw_loopG (σ := Nat × Nat) (fun s => m_laws_sameEvents_L8 N a b s.1 s.2 = some e8) (fun s => [(0, .slice a_a a.length c_a), (1, .slice a_b b.length c_b), (5, .int .i64 ((s.2 : Nat) : Int))]) (fun s => []) (fun s => s.1) (N, 0) [] he8 ⟨rfl, rfl, rfl, trivial⟩ rfl (fun KL s he8 hn8 => ?_)
    obtain ⟨n8, s5⟩ := s
    simp only at he8 hn8 ⊢
    rcases n8 with _ | n8
    · exact nosome he8
    have h := he8; rw [m_laws_sameEvents_L8] at h
    refine cw_seq ?_
    refine cw_seq ?_
    refine cw_region ?_
    refine wl_u rfl (ow_y (yh_move rfl rfl) rfl rfl (kk_wl ?_))
    refine wl_u rfl (ow_y (yh_move rfl rfl) rfl rfl (kk_wl ?_))
    refine wl_u rfl (ow_y (yh_lenS Tb rfl rfl rfl rfl) rfl rfl (kk_wl ?_))
    refine wl_u rfl (ow_y (yh_cmpI rfl rfl rfl rfl) rfl rfl (kk_wl ?_))
    refine wl_nil ?_
    refine ex_seq ?_
    refine cw_split rfl (fun cc2 => ?_) (fun cc2 => ?_)
    · skip
      replace h := bt cc2 h
      have q3 := ltb_true.1 cc2
      refine cw_skip ?_
      refine ex_seq ?_
      refine cw_seq ?_
      refine cw_block ?_
      refine cw_seq ?_
      refine cw_dr [0, 1, 2, 3, 4, 5, 6, 7, 8] [] [] (by kernel_rfl) ?_
      refine wd_take (i := 0) [] rfl rfl rfl rfl rfl (by kernel_rfl) (by kernel_rfl) (fun _ _ _ _ h => h) (yh_move rfl rfl) ?_
      refine wd_take (i := 1) [] rfl rfl rfl rfl rfl (by kernel_rfl) (by kernel_rfl) (fun _ _ _ _ h => h) (yh_move rfl rfl) ?_
      obtain ⟨y19, hy19, h⟩ := bd h
      obtain ⟨b19, o19, ha19⟩ := sl_addr h_a hy19
      subst ha19
      have hc19 := get_event h_a hy19
      refine wd_take (i := 2) [] rfl rfl rfl rfl rfl (by kernel_rfl) (by kernel_rfl) (fun _ _ _ _ h => h) (yh_idx Tb (k := s5) rfl rfl rfl rfl (get_lt hy19) rfl rfl) ?_
      refine wd_take (i := 3) [] rfl rfl rfl rfl rfl (by kernel_rfl) (by kernel_rfl) (fun _ _ _ _ h => h) (yh_loadAN Tb rfl rfl rfl rfl hc19 rfl) ?_
      refine wd_take (i := 4) [] rfl rfl rfl rfl rfl (by kernel_rfl) (by kernel_rfl) (fun _ _ _ _ h => h) (yh_move rfl rfl) ?_
      refine wd_take (i := 5) [] rfl rfl rfl rfl rfl (by kernel_rfl) (by kernel_rfl) (fun _ _ _ _ h => h) (yh_move rfl rfl) ?_
      obtain ⟨y23, hy23, h⟩ := bd h
      obtain ⟨b23, o23, ha23⟩ := sl_addr h_b hy23
      subst ha23
      have hc23 := get_event h_b hy23
      refine wd_take (i := 6) [] rfl rfl rfl rfl rfl (by kernel_rfl) (by kernel_rfl) (fun _ _ _ _ h => h) (yh_idx Tb (k := s5) rfl rfl rfl rfl (get_lt hy23) rfl rfl) ?_
      refine wd_take (i := 7) [] rfl rfl rfl rfl rfl (by kernel_rfl) (by kernel_rfl) (fun _ _ _ _ h => h) (yh_loadAN Tb rfl rfl rfl rfl hc23 rfl) ?_
      refine wd_take (i := 8) [] rfl rfl rfl rfl rfl (by kernel_rfl) (by kernel_rfl) (fun _ _ _ _ h => h) (yh_cmpA rfl rfl rfl rfl (by kernel_rfl)) ?_
      refine wd_done (by kernel_rfl) ?_
      refine ex_seq ?_
      refine cw_split rfl (fun cc3 => ?_) (fun cc3 => ?_)
      · skip
        replace h := bt cc3 h
        refine cw_seq ?_
        refine cw_region ?_
        refine wl_u rfl (ow_y (yh_assign rfl rfl) rfl rfl (kk_wl ?_))
        refine wl_nil ?_
        refine ex_seq ?_
        refine cw_ret ?_
        refine ex_block_ret ?_
        refine ex_then_ret ?_
        refine ex_then_ret ?_
        refine ex_block_ret ?_
        refine ex_then_ret ?_
        obtain rfl := Option.some.inj h
        obtain rfl := go_ret hk8
        exact ex_r1 Tb rfl (.tmp rfl) (fun wq hq => ⟨_, rfl, hq.ext, rfl⟩)
      · skip
        replace h := bf cc3 h
        refine cw_skip ?_
        refine ex_block_normal ?_
        refine ex_seq ?_
        refine cw_region ?_
        refine wl_u rfl (ow_y (yh_move rfl rfl) rfl rfl (kk_wl ?_))
        refine wl_u rfl (ow_y (yh_arI rfl rfl rfl rfl (by omega)) rfl rfl (kk_wl ?_))
        refine wl_u rfl (ow_y (yh_assign rfl rfl) rfl rfl (kk_wl ?_))
        refine wl_nil ?_
        exact ex_next [] (hn8 (n8, s5 + 1) (Nat.lt_succ_self _) h) ⟨rfl, rfl, rfl, trivial⟩ (by kernel_rfl)
    · skip
      replace h := bf cc2 h
      have q4 := ltb_false.1 cc2
      refine cw_exit ?_
      refine ex_then_exit ?_
      refine ex_then_exit ?_
      obtain rfl := Option.some.inj h
      have h := go_brk hk8
      refine ex_block_exit ?_
      refine ex_seq ?_
      refine cw_seq ?_
      refine cw_region ?_
      refine wl_u rfl (ow_y (yh_assign rfl rfl) rfl rfl (kk_wl ?_))
      refine wl_nil ?_
      refine ex_seq ?_
      refine cw_ret ?_
      obtain rfl := Option.some.inj h
      exact ex_r1 Tb rfl (.tmp rfl) (fun wq hq => ⟨_, rfl, hq.ext, rfl⟩)

def m_laws_FnJournal (N : Nat) (code : List UInt8) : Option (Bool) := (bif ltb 1048576 ((code.length : Nat) : Int) then some true
 else (m_spec_DrawJournalText N code).bind fun x13 => (m_impl_JournalText N x13).bind fun x15 => (m_spec_JournalText N x13).bind fun x17 => (bif !(seq x15 x17) then some (seq x15 x17)
 else (m_spec_EventsValid N x13).bind fun x23 => (bif !x23 then some (seq x15 x17)
 else (m_impl_JournalFrom N x15).bind fun x31 => (m_laws_sameEvents N x31.1 x13).bind fun x37 => (bif x37 then (ssz x15).bind fun z41 => (bif eqb x31.2.1 ((x15.size : Nat) : Int) then some (eqb x31.2.2 0)
 else some false)
 else some false))))

set_option maxHeartbeats 4000000 in
theorem c_laws_FnJournal (N : Nat) (code : List UInt8) (res : Bool) (h : m_laws_FnJournal N code = some res) (w : World) {a_code : Option Addr} {c_code : Nat} (hG : globL.rd w [] [] ()) (h_code : bytesL.rd w [] [.slice a_code code.length c_code] code) : Ret Tryd.prog 3 [.slice a_code code.length c_code] w [] fun v w' => v = .bool res := by
  have mh_code := rd_max h_code
  unfold m_laws_FnJournal at h
  refine ret_enter Tryd.func3 rfl Tryd.ntmps3 rfl (Hp.refl w _) ?_
  refine cw_seq ?_
  refine cw_region ?_
  refine wl_u rfl (ow_y (yh_assign rfl rfl) rfl rfl (kk_wl ?_))
  refine wl_nil ?_
  refine ex_seq ?_
  refine cw_seq ?_
  refine cw_seq ?_
  refine cw_region ?_
  refine wl_u rfl (ow_y (yh_move rfl rfl) rfl rfl (kk_wl ?_))
  refine wl_u rfl (ow_y (yh_lenS Tb rfl rfl rfl rfl) rfl rfl (kk_wl ?_))
  refine wl_u rfl (ow_y (yh_cmpI rfl rfl rfl rfl) rfl rfl (kk_wl ?_))
  refine wl_nil ?_
  refine ex_seq ?_
  refine cw_split rfl (fun cc1 => ?_) (fun cc1 => ?_)
  · skip
    replace h := bt cc1 h
    have q1 := ltb_true.1 cc1
    refine cw_seq ?_
    refine cw_region ?_
    refine wl_u rfl (ow_y (yh_assign rfl rfl) rfl rfl (kk_wl ?_))
    refine wl_nil ?_
    refine ex_seq ?_
    refine cw_ret ?_
    refine ex_then_ret ?_
    obtain rfl := Option.some.inj h
    exact ex_r1 Tb rfl (.tmp rfl) (fun wq hq => ⟨_, rfl, hq.ext, rfl⟩)
  · skip
    replace h := bf cc1 h
    have q2 := ltb_false.1 cc1
    refine cw_skip ?_
    refine ex_seq ?_
    refine cw_seq ?_
    refine cw_region ?_
    refine wl_u rfl (ow_y (yh_move rfl rfl) rfl rfl (kk_wl ?_))
    obtain ⟨x13, hx13, h⟩ := bd h
    refine wl_u rfl (ow_cN1 rfl hb9 rfl (fun w hw => c_spec_DrawJournalText N _ _ hx13 w (Lay.at_ h_code hw)) rfl rfl (fun a13 c13 F13 => kk_wl ?_))
    refine wl_u rfl (ow_y (yh_assign rfl rfl) rfl rfl (kk_wl ?_))
    refine wl_nil ?_
    refine ex_seq ?_
    refine cw_seq ?_
    refine cw_freeze 0 rfl (fun w1 M1 hb1_ hz1 => ?_)
    replace hG := Lay.rb hG hb1_
    replace h_code := Lay.rb h_code hb1_
    have hB1 := hb1_
    have mz1 := rd_max hz1
    refine cw_region ?_
    refine wl_u rfl (ow_y (yh_move rfl rfl) rfl rfl (kk_wl ?_))
    obtain ⟨x15, hx15, h⟩ := bd h
    refine wl_u rfl (ow_cV rfl hb10 rfl (fun w hw => c_impl_JournalText N _ _ hx15 w (Lay.at_ hG hw) (Lay.at_ hz1 hw)) rfl rfl (kk_wl ?_))
    refine wl_u rfl (ow_y (yh_assign rfl rfl) rfl rfl (kk_wl ?_))
    refine wl_nil ?_
    refine ex_seq ?_
    refine cw_seq ?_
    refine cw_region ?_
    refine wl_u rfl (ow_y (yh_move rfl rfl) rfl rfl (kk_wl ?_))
    obtain ⟨x17, hx17, h⟩ := bd h
    refine wl_u rfl (ow_cV rfl hb11 rfl (fun w hw => c_spec_JournalText N _ _ hx17 w (Lay.at_ hz1 hw)) rfl rfl (kk_wl ?_))
    refine wl_u rfl (ow_y (yh_assign rfl rfl) rfl rfl (kk_wl ?_))
    refine wl_nil ?_
    refine ex_seq ?_
    refine cw_seq ?_
    refine cw_seq ?_
    refine cw_region ?_
    refine wl_u rfl (ow_y (yh_move rfl rfl) rfl rfl (kk_wl ?_))
    refine wl_u rfl (ow_y (yh_move rfl rfl) rfl rfl (kk_wl ?_))
    refine wl_u rfl (ow_y (yh_cmpS rfl rfl rfl rfl) rfl rfl (kk_wl ?_))
    refine wl_u rfl (ow_y (yh_move rfl rfl) rfl rfl (kk_wl ?_))
    refine wl_s rfl rfl (fun cc2 => ?_) (fun cc2 => ?_)
    · skip
      replace h := bt cc2 h
      refine wl_n rfl rfl rfl rfl ?_
      refine wl_n rfl rfl rfl rfl ?_
      refine wl_n rfl rfl rfl rfl ?_
      refine wl_u rfl (ow_y (yh_pickT rfl rfl rfl) rfl rfl (kk_wl ?_))
      refine wl_nil ?_
      refine ex_seq ?_
      refine cw_true rfl ?_
      refine cw_seq ?_
      refine cw_region ?_
      refine wl_u rfl (ow_y (yh_move rfl rfl) rfl rfl (kk_wl ?_))
      refine wl_u rfl (ow_y (yh_move rfl rfl) rfl rfl (kk_wl ?_))
      refine wl_u rfl (ow_y (yh_cmpS rfl rfl rfl rfl) rfl rfl (kk_wl ?_))
      refine wl_u rfl (ow_y (yh_assign rfl rfl) rfl rfl (kk_wl ?_))
      refine wl_nil ?_
      refine ex_seq ?_
      refine cw_ret ?_
      refine ex_then_ret ?_
      obtain rfl := Option.some.inj h
      exact ex_r1 Tb rfl (.tmp rfl) (fun wq hq => ⟨_, rfl, (hB1.back hq).ext, rfl⟩)
    · skip
      replace h := bf cc2 h
      refine wl_g rfl rfl (ow_y (yh_move rfl rfl) rfl rfl (kk_wl ?_))
      obtain ⟨x23, hx23, h⟩ := bd h
      refine wl_g rfl rfl (ow_cV rfl hb12 rfl (fun w hw => c_spec_EventsValid N _ _ hx23 w (Lay.at_ hz1 hw)) rfl rfl (kk_wl ?_))
      refine wl_g rfl rfl (ow_y (yh_not rfl rfl) rfl rfl (kk_wl ?_))
      refine wl_u rfl (ow_y (yh_pickF rfl rfl rfl) rfl rfl (kk_wl ?_))
      refine wl_nil ?_
      refine ex_seq ?_
      refine cw_split rfl (fun cc3 => ?_) (fun cc3 => ?_)
      · skip
        replace h := bt cc3 h
        refine cw_seq ?_
        refine cw_region ?_
        refine wl_u rfl (ow_y (yh_move rfl rfl) rfl rfl (kk_wl ?_))
        refine wl_u rfl (ow_y (yh_move rfl rfl) rfl rfl (kk_wl ?_))
        refine wl_u rfl (ow_y (yh_cmpS rfl rfl rfl rfl) rfl rfl (kk_wl ?_))
        refine wl_u rfl (ow_y (yh_assign rfl rfl) rfl rfl (kk_wl ?_))
        refine wl_nil ?_
        refine ex_seq ?_
        refine cw_ret ?_
        refine ex_then_ret ?_
        obtain rfl := Option.some.inj h
        exact ex_r1 Tb rfl (.tmp rfl) (fun wq hq => ⟨_, rfl, (hB1.back hq).ext, rfl⟩)
      · skip
        replace h := bf cc3 h
        refine cw_skip ?_
        refine ex_seq ?_
        refine cw_seq ?_
        refine cw_region ?_
        refine wl_u rfl (ow_y (yh_move rfl rfl) rfl rfl (kk_wl ?_))
        obtain ⟨x31, hx31, h⟩ := bd h
        refine wl_u rfl (ow_cN1 rfl hb13 rfl (fun w hw => c_impl_JournalFrom N _ _ hx31 w (Lay.at_ hG hw)) rfl rfl (fun a31 c31 F31 => kk_wl ?_))
        refine wl_u rfl (ow_y (yh_move rfl rfl) rfl rfl (kk_wl ?_))
        refine wl_u rfl (ow_y (yh_extract rfl rfl rfl) rfl rfl (kk_wl ?_))
        refine wl_u rfl (ow_y (yh_extract rfl rfl rfl) rfl rfl (kk_wl ?_))
        refine wl_u rfl (ow_y (yh_extract rfl rfl rfl) rfl rfl (kk_wl ?_))
        refine wl_u rfl (ow_y (yh_assign rfl rfl) rfl rfl (kk_wl ?_))
        refine wl_u rfl (ow_y (yh_assign rfl rfl) rfl rfl (kk_wl ?_))
        refine wl_u rfl (ow_y (yh_assign rfl rfl) rfl rfl (kk_wl ?_))
        refine wl_nil ?_
        refine ex_seq ?_
        refine cw_seq ?_
        refine cw_freeze 0 rfl (fun w2 M2 hb2_ hz2 => ?_)
        replace hG := Lay.rb hG hb2_
        replace h_code := Lay.rb h_code hb2_
        replace hz1 := Lay.rb hz1 hb2_
        have hB2 := hB1.trans hb2_
        have mz2 := rd_max hz2
        refine cw_region ?_
        refine wl_u rfl (ow_y (yh_move rfl rfl) rfl rfl (kk_wl ?_))
        refine wl_u rfl (ow_y (yh_move rfl rfl) rfl rfl (kk_wl ?_))
        obtain ⟨x37, hx37, h⟩ := bd h
        refine wl_u rfl (ow_cV rfl hb14 rfl (fun w hw => c_laws_sameEvents N _ _ _ hx37 w (Lay.at_ hz2 hw) (Lay.at_ hz1 hw)) rfl rfl (kk_wl ?_))
        refine wl_u rfl (ow_y (yh_move rfl rfl) rfl rfl (kk_wl ?_))
        refine wl_s rfl rfl (fun cc4 => ?_) (fun cc4 => ?_)
        · skip
          replace h := bt cc4 h
          refine wl_g rfl rfl (ow_y (yh_move rfl rfl) rfl rfl (kk_wl ?_))
          refine wl_g rfl rfl (ow_y (yh_move rfl rfl) rfl rfl (kk_wl ?_))
          obtain ⟨z41, hz41, h⟩ := bd h
          have mz41 := ssz_some hz41
          refine wl_g rfl rfl (ow_y (yh_lenT Tb rfl rfl rfl rfl) rfl rfl (kk_wl ?_))
          refine wl_g rfl rfl (ow_y (yh_cmpI rfl rfl rfl rfl) rfl rfl (kk_wl ?_))
          refine wl_u rfl (ow_y (yh_pickT rfl rfl rfl) rfl rfl (kk_wl ?_))
          refine wl_u rfl (ow_y (yh_move rfl rfl) rfl rfl (kk_wl ?_))
          refine wl_s rfl rfl (fun cc5 => ?_) (fun cc5 => ?_)
          · skip
            replace h := bt cc5 h
            have q3 := eqb_true.1 cc5
            refine wl_g rfl rfl (ow_y (yh_move rfl rfl) rfl rfl (kk_wl ?_))
            refine wl_g rfl rfl (ow_y (yh_cmpI rfl rfl rfl rfl) rfl rfl (kk_wl ?_))
            refine wl_u rfl (ow_y (yh_pickT rfl rfl rfl) rfl rfl (kk_wl ?_))
            refine wl_u rfl (ow_y (yh_assign rfl rfl) rfl rfl (kk_wl ?_))
            refine wl_nil ?_
            refine ex_seq ?_
            refine cw_ret ?_
            obtain rfl := Option.some.inj h
            exact ex_r1 Tb rfl (.tmp rfl) (fun wq hq => ⟨_, rfl, (hB2.back hq).ext, rfl⟩)
          · skip
            replace h := bf cc5 h
            have q4 := eqb_false.1 cc5
            refine wl_n rfl rfl rfl rfl ?_
            refine wl_n rfl rfl rfl rfl ?_
            refine wl_u rfl (ow_y (yh_pickF rfl rfl rfl) rfl rfl (kk_wl ?_))
            refine wl_u rfl (ow_y (yh_assign rfl rfl) rfl rfl (kk_wl ?_))
            refine wl_nil ?_
            refine ex_seq ?_
            refine cw_ret ?_
            obtain rfl := Option.some.inj h
            exact ex_r1 Tb rfl (.tmp rfl) (fun wq hq => ⟨_, rfl, (hB2.back hq).ext, rfl⟩)
        · skip
          replace h := bf cc4 h
          refine wl_n rfl rfl rfl rfl ?_
          refine wl_n rfl rfl rfl rfl ?_
          refine wl_n rfl rfl rfl rfl ?_
          refine wl_n rfl rfl rfl rfl ?_
          refine wl_u rfl (ow_y (yh_pickF rfl rfl rfl) rfl rfl (kk_wl ?_))
          refine wl_u rfl (ow_y (yh_move rfl rfl) rfl rfl (kk_wl ?_))
          refine wl_s rfl rfl nofun (fun _ => ?_)
          refine wl_n rfl rfl rfl rfl ?_
          refine wl_n rfl rfl rfl rfl ?_
          refine wl_u rfl (ow_y (yh_pickF rfl rfl rfl) rfl rfl (kk_wl ?_))
          refine wl_u rfl (ow_y (yh_assign rfl rfl) rfl rfl (kk_wl ?_))
          refine wl_nil ?_
          refine ex_seq ?_
          refine cw_ret ?_
          obtain rfl := Option.some.inj h
          exact ex_r1 Tb rfl (.tmp rfl) (fun wq hq => ⟨_, rfl, (hB2.back hq).ext, rfl⟩)

def m_laws_FnJournalTorn (N : Nat) (code : List UInt8) : Option (Bool) := (bif ltb 1048576 ((code.length : Nat) : Int) then some true
 else (m_spec_DrawJournalText N code).bind fun x13 => (m_impl_JournalText N x13).bind fun x15 => (m_spec_JournalText N x13).bind fun x17 => (bif !(seq x15 x17) then some (seq x15 x17)
 else (m_spec_EventsValid N x13).bind fun x23 => (bif !x23 then some (seq x15 x17)
 else (bif eqb ((x13.length : Nat) : Int) 0 then some (seq x15 x17)
 else (ssz x15).bind fun z37 => (ssub x15 0 (((x15.size : Nat) : Int) - 1)).bind fun u39 => (m_impl_JournalFrom N u39).bind fun x40 => (slTo x13 (((x13.length : Nat) : Int) - 1)).bind fun l49 => (m_laws_sameEvents N x40.1 l49).bind fun x50 => (bif x50 then some (eqb x40.2.2 1)
 else some false)))))

set_option maxHeartbeats 4000000 in
theorem c_laws_FnJournalTorn (N : Nat) (code : List UInt8) (res : Bool) (h : m_laws_FnJournalTorn N code = some res) (w : World) {a_code : Option Addr} {c_code : Nat} (hG : globL.rd w [] [] ()) (h_code : bytesL.rd w [] [.slice a_code code.length c_code] code) : Ret Tryd.prog 4 [.slice a_code code.length c_code] w [] fun v w' => v = .bool res := by
  have mh_code := rd_max h_code
  unfold m_laws_FnJournalTorn at h
  refine ret_enter Tryd.func4 rfl Tryd.ntmps4 rfl (Hp.refl w _) ?_
  refine cw_seq ?_
  refine cw_region ?_
  refine wl_u rfl (ow_y (yh_assign rfl rfl) rfl rfl (kk_wl ?_))
  refine wl_nil ?_
  refine ex_seq ?_
  refine cw_seq ?_
  refine cw_seq ?_
  refine cw_region ?_
  refine wl_u rfl (ow_y (yh_move rfl rfl) rfl rfl (kk_wl ?_))
  refine wl_u rfl (ow_y (yh_lenS Tb rfl rfl rfl rfl) rfl rfl (kk_wl ?_))
  refine wl_u rfl (ow_y (yh_cmpI rfl rfl rfl rfl) rfl rfl (kk_wl ?_))
  refine wl_nil ?_
  refine ex_seq ?_
  refine cw_split rfl (fun cc1 => ?_) (fun cc1 => ?_)
  · skip
    replace h := bt cc1 h
    have q1 := ltb_true.1 cc1
    refine cw_seq ?_
    refine cw_region ?_
    refine wl_u rfl (ow_y (yh_assign rfl rfl) rfl rfl (kk_wl ?_))
    refine wl_nil ?_
    refine ex_seq ?_
    refine cw_ret ?_
    refine ex_then_ret ?_
    obtain rfl := Option.some.inj h
    exact ex_r1 Tb rfl (.tmp rfl) (fun wq hq => ⟨_, rfl, hq.ext, rfl⟩)
  · skip
    replace h := bf cc1 h
    have q2 := ltb_false.1 cc1
    refine cw_skip ?_
    refine ex_seq ?_
    refine cw_seq ?_
    refine cw_region ?_
    refine wl_u rfl (ow_y (yh_move rfl rfl) rfl rfl (kk_wl ?_))
    obtain ⟨x13, hx13, h⟩ := bd h
    refine wl_u rfl (ow_cN1 rfl hb9 rfl (fun w hw => c_spec_DrawJournalText N _ _ hx13 w (Lay.at_ h_code hw)) rfl rfl (fun a13 c13 F13 => kk_wl ?_))
    refine wl_u rfl (ow_y (yh_assign rfl rfl) rfl rfl (kk_wl ?_))
    refine wl_nil ?_
    refine ex_seq ?_
    refine cw_seq ?_
    refine cw_freeze 0 rfl (fun w1 M1 hb1_ hz1 => ?_)
    replace hG := Lay.rb hG hb1_
    replace h_code := Lay.rb h_code hb1_
    have hB1 := hb1_
    have mz1 := rd_max hz1
    refine cw_region ?_
    refine wl_u rfl (ow_y (yh_move rfl rfl) rfl rfl (kk_wl ?_))
    obtain ⟨x15, hx15, h⟩ := bd h
    refine wl_u rfl (ow_cV rfl hb10 rfl (fun w hw => c_impl_JournalText N _ _ hx15 w (Lay.at_ hG hw) (Lay.at_ hz1 hw)) rfl rfl (kk_wl ?_))
    refine wl_u rfl (ow_y (yh_assign rfl rfl) rfl rfl (kk_wl ?_))
    refine wl_nil ?_
    refine ex_seq ?_
    refine cw_seq ?_
    refine cw_region ?_
    refine wl_u rfl (ow_y (yh_move rfl rfl) rfl rfl (kk_wl ?_))
    obtain ⟨x17, hx17, h⟩ := bd h
    refine wl_u rfl (ow_cV rfl hb11 rfl (fun w hw => c_spec_JournalText N _ _ hx17 w (Lay.at_ hz1 hw)) rfl rfl (kk_wl ?_))
    refine wl_u rfl (ow_y (yh_assign rfl rfl) rfl rfl (kk_wl ?_))
    refine wl_nil ?_
    refine ex_seq ?_
    refine cw_seq ?_
    refine cw_seq ?_
    refine cw_region ?_
    refine wl_u rfl (ow_y (yh_move rfl rfl) rfl rfl (kk_wl ?_))
    refine wl_u rfl (ow_y (yh_move rfl rfl) rfl rfl (kk_wl ?_))
    refine wl_u rfl (ow_y (yh_cmpS rfl rfl rfl rfl) rfl rfl (kk_wl ?_))
    refine wl_u rfl (ow_y (yh_move rfl rfl) rfl rfl (kk_wl ?_))
    refine wl_s rfl rfl (fun cc2 => ?_) (fun cc2 => ?_)
    · skip
      replace h := bt cc2 h
      refine wl_n rfl rfl rfl rfl ?_
      refine wl_n rfl rfl rfl rfl ?_
      refine wl_n rfl rfl rfl rfl ?_
      refine wl_u rfl (ow_y (yh_pickT rfl rfl rfl) rfl rfl (kk_wl ?_))
      refine wl_u rfl (ow_y (yh_move rfl rfl) rfl rfl (kk_wl ?_))
      refine wl_s rfl rfl (fun _ => ?_) nofun
      refine wl_n rfl rfl rfl rfl ?_
      refine wl_n rfl rfl rfl rfl ?_
      refine wl_n rfl rfl rfl rfl ?_
      refine wl_u rfl (ow_y (yh_pickT rfl rfl rfl) rfl rfl (kk_wl ?_))
      refine wl_nil ?_
      refine ex_seq ?_
      refine cw_true rfl ?_
      refine cw_seq ?_
      refine cw_region ?_
      refine wl_u rfl (ow_y (yh_move rfl rfl) rfl rfl (kk_wl ?_))
      refine wl_u rfl (ow_y (yh_move rfl rfl) rfl rfl (kk_wl ?_))
      refine wl_u rfl (ow_y (yh_cmpS rfl rfl rfl rfl) rfl rfl (kk_wl ?_))
      refine wl_u rfl (ow_y (yh_assign rfl rfl) rfl rfl (kk_wl ?_))
      refine wl_nil ?_
      refine ex_seq ?_
      refine cw_ret ?_
      refine ex_then_ret ?_
      obtain rfl := Option.some.inj h
      exact ex_r1 Tb rfl (.tmp rfl) (fun wq hq => ⟨_, rfl, (hB1.back hq).ext, rfl⟩)
    · skip
      replace h := bf cc2 h
      refine wl_g rfl rfl (ow_y (yh_move rfl rfl) rfl rfl (kk_wl ?_))
      obtain ⟨x23, hx23, h⟩ := bd h
      refine wl_g rfl rfl (ow_cV rfl hb12 rfl (fun w hw => c_spec_EventsValid N _ _ hx23 w (Lay.at_ hz1 hw)) rfl rfl (kk_wl ?_))
      refine wl_g rfl rfl (ow_y (yh_not rfl rfl) rfl rfl (kk_wl ?_))
      refine wl_u rfl (ow_y (yh_pickF rfl rfl rfl) rfl rfl (kk_wl ?_))
      refine wl_u rfl (ow_y (yh_move rfl rfl) rfl rfl (kk_wl ?_))
      refine wl_s rfl rfl (fun cc3 => ?_) (fun cc3 => ?_)
      · skip
        replace h := bt cc3 h
        refine wl_n rfl rfl rfl rfl ?_
        refine wl_n rfl rfl rfl rfl ?_
        refine wl_n rfl rfl rfl rfl ?_
        refine wl_u rfl (ow_y (yh_pickT rfl rfl rfl) rfl rfl (kk_wl ?_))
        refine wl_nil ?_
        refine ex_seq ?_
        refine cw_true rfl ?_
        refine cw_seq ?_
        refine cw_region ?_
        refine wl_u rfl (ow_y (yh_move rfl rfl) rfl rfl (kk_wl ?_))
        refine wl_u rfl (ow_y (yh_move rfl rfl) rfl rfl (kk_wl ?_))
        refine wl_u rfl (ow_y (yh_cmpS rfl rfl rfl rfl) rfl rfl (kk_wl ?_))
        refine wl_u rfl (ow_y (yh_assign rfl rfl) rfl rfl (kk_wl ?_))
        refine wl_nil ?_
        refine ex_seq ?_
        refine cw_ret ?_
        refine ex_then_ret ?_
        obtain rfl := Option.some.inj h
        exact ex_r1 Tb rfl (.tmp rfl) (fun wq hq => ⟨_, rfl, (hB1.back hq).ext, rfl⟩)
      · skip
        replace h := bf cc3 h
        refine wl_g rfl rfl (ow_y (yh_move rfl rfl) rfl rfl (kk_wl ?_))
        refine wl_g rfl rfl (ow_y (yh_lenS Tb rfl rfl rfl rfl) rfl rfl (kk_wl ?_))
        refine wl_g rfl rfl (ow_y (yh_cmpI rfl rfl rfl rfl) rfl rfl (kk_wl ?_))
        refine wl_u rfl (ow_y (yh_pickF rfl rfl rfl) rfl rfl (kk_wl ?_))
        refine wl_nil ?_
        refine ex_seq ?_
        refine cw_split rfl (fun cc4 => ?_) (fun cc4 => ?_)
        · skip
          replace h := bt cc4 h
          have q3 := eqb_true.1 cc4
          refine cw_seq ?_
          refine cw_region ?_
          refine wl_u rfl (ow_y (yh_move rfl rfl) rfl rfl (kk_wl ?_))
          refine wl_u rfl (ow_y (yh_move rfl rfl) rfl rfl (kk_wl ?_))
          refine wl_u rfl (ow_y (yh_cmpS rfl rfl rfl rfl) rfl rfl (kk_wl ?_))
          refine wl_u rfl (ow_y (yh_assign rfl rfl) rfl rfl (kk_wl ?_))
          refine wl_nil ?_
          refine ex_seq ?_
          refine cw_ret ?_
          refine ex_then_ret ?_
          obtain rfl := Option.some.inj h
          exact ex_r1 Tb rfl (.tmp rfl) (fun wq hq => ⟨_, rfl, (hB1.back hq).ext, rfl⟩)
        · skip
          replace h := bf cc4 h
          have q4 := eqb_false.1 cc4
          refine cw_skip ?_
          refine ex_seq ?_
          refine cw_seq ?_
          refine cw_region ?_
          refine wl_u rfl (ow_y (yh_move rfl rfl) rfl rfl (kk_wl ?_))
          refine wl_u rfl (ow_y (yh_move rfl rfl) rfl rfl (kk_wl ?_))
          obtain ⟨z37, hz37, h⟩ := bd h
          have mz37 := ssz_some hz37
          refine wl_u rfl (ow_y (yh_lenT Tb rfl rfl rfl rfl) rfl rfl (kk_wl ?_))
          refine wl_u rfl (ow_y (yh_arI rfl rfl rfl rfl (by omega)) rfl rfl (kk_wl ?_))
          obtain ⟨u39, zu39, h⟩ := bd h
          refine wl_u rfl (ow_y (yh_strH zu39 rfl rfl rfl (by kernel_rfl)) rfl rfl (kk_wl ?_))
          obtain ⟨x40, hx40, h⟩ := bd h
          refine wl_u rfl (ow_cN1 rfl hb13 rfl (fun w hw => c_impl_JournalFrom N _ _ hx40 w (Lay.at_ hG hw)) rfl rfl (fun a40 c40 F40 => kk_wl ?_))
          refine wl_u rfl (ow_y (yh_move rfl rfl) rfl rfl (kk_wl ?_))
          refine wl_u rfl (ow_y (yh_extract rfl rfl rfl) rfl rfl (kk_wl ?_))
          refine wl_u rfl (ow_y (yh_extract rfl rfl rfl) rfl rfl (kk_wl ?_))
          refine wl_u rfl (ow_y (yh_extract rfl rfl rfl) rfl rfl (kk_wl ?_))
          refine wl_u rfl (ow_y (yh_assign rfl rfl) rfl rfl (kk_wl ?_))
          refine wl_u rfl (ow_y (yh_assign rfl rfl) rfl rfl (kk_wl ?_))
          refine wl_u rfl (ow_y (yh_assign rfl rfl) rfl rfl (kk_wl ?_))
          refine wl_nil ?_
          refine ex_seq ?_
          refine cw_seq ?_
          refine cw_freeze 0 rfl (fun w2 M2 hb2_ hz2 => ?_)
          replace hG := Lay.rb hG hb2_
          replace h_code := Lay.rb h_code hb2_
          replace hz1 := Lay.rb hz1 hb2_
          have hB2 := hB1.trans hb2_
          have mz2 := rd_max hz2
          refine cw_region ?_
          refine wl_u rfl (ow_y (yh_move rfl rfl) rfl rfl (kk_wl ?_))
          refine wl_u rfl (ow_y (yh_move rfl rfl) rfl rfl (kk_wl ?_))
          refine wl_u rfl (ow_y (yh_move rfl rfl) rfl rfl (kk_wl ?_))
          refine wl_u rfl (ow_y (yh_lenS Tb rfl rfl rfl rfl) rfl rfl (kk_wl ?_))
          refine wl_u rfl (ow_y (yh_arI rfl rfl rfl rfl (by omega)) rfl rfl (kk_wl ?_))
          obtain ⟨l49, zl49, h⟩ := bd h
          obtain ⟨il49, jl49⟩ := slTo_K zl49
          have hf49 := sl_takeK hz1 zl49
          have mx49 := rd_max hf49
          refine wl_u rfl (ow_y (yh_sliceH Tb (k := l49.length) rfl rfl rfl il49 (Nat.le_trans jl49 (rd_cap hz1)) rfl rfl) rfl rfl (kk_wl ?_))
          obtain ⟨x50, hx50, h⟩ := bd h
          refine wl_u rfl (ow_cV rfl hb14 rfl (fun w hw => c_laws_sameEvents N _ _ _ hx50 w (Lay.at_ hz2 hw) (Lay.at_ hf49 hw)) rfl rfl (kk_wl ?_))
          refine wl_u rfl (ow_y (yh_move rfl rfl) rfl rfl (kk_wl ?_))
          refine wl_s rfl rfl (fun cc5 => ?_) (fun cc5 => ?_)
          · skip
            replace h := bt cc5 h
            refine wl_g rfl rfl (ow_y (yh_move rfl rfl) rfl rfl (kk_wl ?_))
            refine wl_g rfl rfl (ow_y (yh_cmpI rfl rfl rfl rfl) rfl rfl (kk_wl ?_))
            refine wl_u rfl (ow_y (yh_pickT rfl rfl rfl) rfl rfl (kk_wl ?_))
            refine wl_u rfl (ow_y (yh_assign rfl rfl) rfl rfl (kk_wl ?_))
            refine wl_nil ?_
            refine ex_seq ?_
            refine cw_ret ?_
            obtain rfl := Option.some.inj h
            exact ex_r1 Tb rfl (.tmp rfl) (fun wq hq => ⟨_, rfl, (hB2.back hq).ext, rfl⟩)
          · skip
            replace h := bf cc5 h
            refine wl_n rfl rfl rfl rfl ?_
            refine wl_n rfl rfl rfl rfl ?_
            refine wl_u rfl (ow_y (yh_pickF rfl rfl rfl) rfl rfl (kk_wl ?_))
            refine wl_u rfl (ow_y (yh_assign rfl rfl) rfl rfl (kk_wl ?_))
            refine wl_nil ?_
            refine ex_seq ?_
            refine cw_ret ?_
            obtain rfl := Option.some.inj h
            exact ex_r1 Tb rfl (.tmp rfl) (fun wq hq => ⟨_, rfl, (hB2.back hq).ext, rfl⟩)

def m_spec_l5End_L4 (N : Nat) (text : Str) : Nat → Int → Option (Ex (Int) (Int))
  | 0, _ => none
  | n + 1, s5 => (ssz text).bind fun z9 => (bif ltb s5 ((text.size : Nat) : Int) then (bgeti text s5).bind fun y15 => (bif eqb ((y15 : Nat) : Int) 10 then some (Ex.ret s5)
 else m_spec_l5End_L4 N text n (w64 (s5 + 1)))
 else some (Ex.brk (s5)))

def m_spec_l5End (N : Nat) (text : Str) (from_ : Int) : Option (Int) := (m_spec_l5End_L4 N text N from_).bind fun e4 => e4.go (fun r => r) fun b4 => some (-1)

set_option maxHeartbeats 4000000 in
theorem c_spec_l5End (N : Nat) (text : Str) (from_ : Int) (res : Int) (h : m_spec_l5End N text from_ = some res) (w : World) : Ret Tryd.prog 32 [.string text, .int .i64 from_] w [] fun v w' => v = .int .i64 res := by
  unfold m_spec_l5End at h
  refine ret_enter Tryd.func32 rfl Tryd.ntmps32 rfl (Hp.refl w _) ?_
  refine cw_seq ?_
  refine cw_region ?_
  refine wl_u rfl (ow_y (yh_assign rfl rfl) rfl rfl (kk_wl ?_))
  refine wl_nil ?_
  refine ex_seq ?_
  refine cw_seq ?_
  refine cw_seq ?_
  refine cw_region ?_
  refine wl_u rfl (ow_y (yh_move rfl rfl) rfl rfl (kk_wl ?_))
  refine wl_u rfl (ow_y (yh_assign rfl rfl) rfl rfl (kk_wl ?_))
  refine wl_nil ?_
  refine ex_seq ?_
  refine cw_block ?_
  obtain ⟨e4, he4, hk4⟩ := bd h
  clear h
  refine cw_loopG (σ := Nat × Int) (fun s => m_spec_l5End_L4 N text s.1 s.2 = some e4) (fun s => [(0, .string text), (5, .int .i64 s.2)]) (fun s => []) (fun s => s.1) (N, from_) [] he4 ⟨rfl, rfl, trivial⟩ rfl (fun KL s he4 hn4 => ?_)
  obtain ⟨n4, s5⟩ := s
  simp only at he4 hn4 ⊢
  rcases n4 with _ | n4
  · exact nosome he4
  have h := he4; rw [m_spec_l5End_L4] at h
  refine cw_seq ?_
  refine cw_seq ?_
  refine cw_region ?_
  refine wl_u rfl (ow_y (yh_move rfl rfl) rfl rfl (kk_wl ?_))
  refine wl_u rfl (ow_y (yh_move rfl rfl) rfl rfl (kk_wl ?_))
  obtain ⟨z9, hz9, h⟩ := bd h
  have mz9 := ssz_some hz9
  refine wl_u rfl (ow_y (yh_lenT Tb rfl rfl rfl rfl) rfl rfl (kk_wl ?_))
  refine wl_u rfl (ow_y (yh_cmpI rfl rfl rfl rfl) rfl rfl (kk_wl ?_))
  refine wl_nil ?_
  refine ex_seq ?_
  refine cw_split rfl (fun cc1 => ?_) (fun cc1 => ?_)
  · skip
    replace h := bt cc1 h
    have q1 := ltb_true.1 cc1
    refine cw_skip ?_
    refine ex_seq ?_
    refine cw_seq ?_
    refine cw_block ?_
    refine cw_seq ?_
    refine cw_region ?_
    refine wl_u rfl (ow_y (yh_move rfl rfl) rfl rfl (kk_wl ?_))
    refine wl_u rfl (ow_y (yh_move rfl rfl) rfl rfl (kk_wl ?_))
    obtain ⟨y15, zy15, h⟩ := bd h
    obtain ⟨iy15, hy15⟩ := bgeti_some zy15
    refine wl_u rfl (ow_y (yh_indexS Tb (k := s5.toNat) rfl rfl rfl iy15 hy15 rfl) rfl rfl (kk_wl ?_))
    refine wl_u rfl (ow_y (yh_cmpI rfl rfl rfl rfl) rfl rfl (kk_wl ?_))
    refine wl_nil ?_
    refine ex_seq ?_
    refine cw_split rfl (fun cc2 => ?_) (fun cc2 => ?_)
    · skip
      replace h := bt cc2 h
      have q2 := eqb_true.1 cc2
      refine cw_seq ?_
      refine cw_region ?_
      refine wl_u rfl (ow_y (yh_move rfl rfl) rfl rfl (kk_wl ?_))
      refine wl_u rfl (ow_y (yh_assign rfl rfl) rfl rfl (kk_wl ?_))
      refine wl_nil ?_
      refine ex_seq ?_
      refine cw_ret ?_
      refine ex_block_ret ?_
      refine ex_then_ret ?_
      refine ex_then_ret ?_
      refine ex_block_ret ?_
      refine ex_then_ret ?_
      obtain rfl := Option.some.inj h
      obtain rfl := go_ret hk4
      exact ex_r1 Tb rfl (.tmp rfl) (fun wq hq => ⟨_, rfl, hq.ext, rfl⟩)
    · skip
      replace h := bf cc2 h
      have q3 := eqb_false.1 cc2
      refine cw_skip ?_
      refine ex_block_normal ?_
      refine ex_seq ?_
      refine cw_region ?_
      refine wl_u rfl (ow_y (yh_move rfl rfl) rfl rfl (kk_wl ?_))
      refine wl_u rfl (ow_y (yh_arW rfl rfl rfl rfl) rfl rfl (kk_wl ?_))
      refine wl_u rfl (ow_y (yh_assign rfl rfl) rfl rfl (kk_wl ?_))
      refine wl_nil ?_
      exact ex_next [] (hn4 (n4, w64 (s5 + 1)) (Nat.lt_succ_self _) h) ⟨rfl, rfl, trivial⟩ (by kernel_rfl)
  · skip
    replace h := bf cc1 h
    have q4 := ltb_false.1 cc1
    refine cw_exit ?_
    refine ex_then_exit ?_
    refine ex_then_exit ?_
    obtain rfl := Option.some.inj h
    have h := go_brk hk4
    refine ex_block_exit ?_
    refine ex_seq ?_
    refine cw_seq ?_
    refine cw_region ?_
    refine wl_u rfl (ow_y (yh_assign rfl rfl) rfl rfl (kk_wl ?_))
    refine wl_nil ?_
    refine ex_seq ?_
    refine cw_ret ?_
    obtain rfl := Option.some.inj h
    exact ex_r1 Tb rfl (.tmp rfl) (fun wq hq => ⟨_, rfl, hq.ext, rfl⟩)

def m_spec_l5Cut_L6 (N : Nat) (s_ : Str) : Nat → (List Str) → Nat → Nat → Option (Ex (List Str × Nat × Nat) (List Str))
  | 0, _, _, _ => none
  | n + 1, s3, s4, s5 => (ssz s_).bind fun z9 => (bif ltb ((s5 : Nat) : Int) ((s_.size : Nat) : Int) then (bget s_ s5).bind fun y15 => (bif eqb ((y15 : Nat) : Int) 32 then (ssub s_ ((s4 : Nat) : Int) ((s5 : Nat) : Int)).bind fun u21 => (appd s3 ([u21] : List Str)).bind fun l23 => m_spec_l5Cut_L6 N s_ n (s3 ++ ([u21] : List Str)) (s5 + 1) (s5 + 1)
 else m_spec_l5Cut_L6 N s_ n s3 s4 (s5 + 1))
 else some (Ex.brk (s3, s4, s5)))

def m_spec_l5Cut (N : Nat) (s_ : Str) : Option (List Str) := (m_spec_l5Cut_L6 N s_ N ([] : List Str) 0 0).bind fun e6 => e6.go (fun r => r) fun b6 => (ssub s_ ((b6.2.1 : Nat) : Int) ((s_.size : Nat) : Int)).bind fun u29 => (appd b6.1 ([u29] : List Str)).bind fun l31 => some (b6.1 ++ ([u29] : List Str))

set_option maxHeartbeats 4000000 in
theorem c_spec_l5Cut (N : Nat) (s_ : Str) (res : List Str) (h : m_spec_l5Cut N s_ = some res) (w : World) : Ret Tryd.prog 49 [.string s_] w [] fun v w' => ∃ a1 c1 F1, v = .slice a1 res.length c1 ∧ NewC w w' [owC strsL F1 [.slice a1 res.length c1] res] := by
  unfold m_spec_l5Cut at h
  refine ret_enter Tryd.func49 rfl Tryd.ntmps49 rfl (Hp.refl w _) ?_
  refine cw_seq ?_
  refine cw_region ?_
  refine wl_u rfl (ow_y (yh_assign rfl rfl) rfl rfl (kk_wl ?_))
  refine wl_nil ?_
  refine ex_seq ?_
  refine cw_seq ?_
  refine cw_region ?_
  refine wl_u rfl (ow_lit0 Tb rfl rfl rfl rfl rfl rfl (fun g6 => kk_chg (c' := owC strsL [g6] [.slice (some ⟨g6, 0, none⟩) 0 0] ([] : List Str)) 0 rfl (fun w hA => own_strsL ([] : List Str) hA rfl (by simp [maxLen])) rfl (kk_wl ?_)))
  refine wl_u rfl (ow_y (yh_assign rfl rfl) rfl rfl (kk_wl ?_))
  refine wl_nil ?_
  refine ex_seq ?_
  refine cw_seq ?_
  refine cw_region ?_
  refine wl_u rfl (ow_y (yh_assign rfl rfl) rfl rfl (kk_wl ?_))
  refine wl_nil ?_
  refine ex_seq ?_
  refine cw_seq ?_
  refine cw_seq ?_
  refine cw_region ?_
  refine wl_u rfl (ow_y (yh_assign rfl rfl) rfl rfl (kk_wl ?_))
  refine wl_nil ?_
  refine ex_seq ?_
  refine cw_block ?_
  obtain ⟨e6, he6, hk6⟩ := bd h
  clear h
  refine cw_loopG (σ := Nat × (List Str) × Nat × Nat × (Option Addr) × Nat × (List Nat)) (fun s => m_spec_l5Cut_L6 N s_ s.1 s.2.1 s.2.2.1 s.2.2.2.1 = some e6) (fun s => [(0, .string s_), (3, .slice s.2.2.2.2.1 s.2.1.length s.2.2.2.2.2.1), (4, .int .i64 ((s.2.2.1 : Nat) : Int)), (5, .int .i64 ((s.2.2.2.1 : Nat) : Int))]) (fun s => [owC strsL s.2.2.2.2.2.2 [.slice s.2.2.2.2.1 s.2.1.length s.2.2.2.2.2.1] s.2.1]) (fun s => s.1) (N, ([] : List Str), 0, 0, (some ⟨g6, 0, none⟩), 0, [g6]) [0] he6 ⟨rfl, rfl, rfl, rfl, trivial⟩ rfl (fun KL s he6 hn6 => ?_)
  obtain ⟨n6, s3, s4, s5, as3, cs3, Fs3⟩ := s
  simp only at he6 hn6 ⊢
  rcases n6 with _ | n6
  · exact nosome he6
  have h := he6; rw [m_spec_l5Cut_L6] at h
  refine cw_seq ?_
  refine cw_seq ?_
  refine cw_region ?_
  refine wl_u rfl (ow_y (yh_move rfl rfl) rfl rfl (kk_wl ?_))
  refine wl_u rfl (ow_y (yh_move rfl rfl) rfl rfl (kk_wl ?_))
  obtain ⟨z9, hz9, h⟩ := bd h
  have mz9 := ssz_some hz9
  refine wl_u rfl (ow_y (yh_lenT Tb rfl rfl rfl rfl) rfl rfl (kk_wl ?_))
  refine wl_u rfl (ow_y (yh_cmpI rfl rfl rfl rfl) rfl rfl (kk_wl ?_))
  refine wl_nil ?_
  refine ex_seq ?_
  refine cw_split rfl (fun cc1 => ?_) (fun cc1 => ?_)
  · skip
    replace h := bt cc1 h
    have q1 := ltb_true.1 cc1
    refine cw_skip ?_
    refine ex_seq ?_
    refine cw_seq ?_
    refine cw_block ?_
    refine cw_seq ?_
    refine cw_region ?_
    refine wl_u rfl (ow_y (yh_move rfl rfl) rfl rfl (kk_wl ?_))
    refine wl_u rfl (ow_y (yh_move rfl rfl) rfl rfl (kk_wl ?_))
    obtain ⟨y15, hy15, h⟩ := bd h
    refine wl_u rfl (ow_y (yh_indexS Tb (k := s5) rfl rfl rfl rfl hy15 rfl) rfl rfl (kk_wl ?_))
    refine wl_u rfl (ow_y (yh_cmpI rfl rfl rfl rfl) rfl rfl (kk_wl ?_))
    refine wl_nil ?_
    refine ex_seq ?_
    refine cw_split rfl (fun cc2 => ?_) (fun cc2 => ?_)
    · skip
      replace h := bt cc2 h
      have q2 := eqb_true.1 cc2
      refine cw_seq ?_
      refine cw_region ?_
      refine wl_u rfl (ow_y (yh_move rfl rfl) rfl rfl (kk_wl ?_))
      refine wl_u rfl (ow_y (yh_move rfl rfl) rfl rfl (kk_wl ?_))
      refine wl_u rfl (ow_y (yh_move rfl rfl) rfl rfl (kk_wl ?_))
      refine wl_u rfl (ow_y (yh_move rfl rfl) rfl rfl (kk_wl ?_))
      obtain ⟨u21, zu21, h⟩ := bd h
      refine wl_u rfl (ow_y (yh_strLH zu21 rfl rfl rfl rfl (by kernel_rfl)) rfl rfl (kk_wl ?_))
      refine wl_u rfl (ow_lit1 Tb rfl rfl rfl rfl rfl rfl rfl rfl rfl rfl (fun g22 => kk_chg (c' := owC strsL [g22] [.slice (some ⟨g22, 0, none⟩) 1 1] ([u21] : List Str)) 0 rfl (fun w hA => own_strsL ([u21] : List Str) hA rfl (by simp [maxLen])) rfl (kk_wl ?_)))
      obtain ⟨hll23, h⟩ := bd_appd h
      refine wl_u rfl (ow_appP Tb (i := 1) rfl rfl rfl rfl rfl (fun w hw => rdo (A := strsL) 0 rfl hw) rfl rfl rfl rfl hll23 (by decide) rfl rfl (fun a23 c23 F23 => kk_wl ?_))
      refine wl_u rfl (ow_y (yh_assign rfl rfl) rfl rfl (kk_wl ?_))
      refine wl_nil ?_
      refine ex_seq ?_
      refine cw_region ?_
      refine wl_u rfl (ow_y (yh_move rfl rfl) rfl rfl (kk_wl ?_))
      refine wl_u rfl (ow_y (yh_arI rfl rfl rfl rfl (by omega)) rfl rfl (kk_wl ?_))
      refine wl_u rfl (ow_y (yh_assign rfl rfl) rfl rfl (kk_wl ?_))
      refine wl_nil ?_
      refine ex_block_normal ?_
      refine ex_seq ?_
      refine cw_region ?_
      refine wl_u rfl (ow_y (yh_move rfl rfl) rfl rfl (kk_wl ?_))
      refine wl_u rfl (ow_y (yh_arI rfl rfl rfl rfl (by omega)) rfl rfl (kk_wl ?_))
      refine wl_u rfl (ow_y (yh_assign rfl rfl) rfl rfl (kk_wl ?_))
      refine wl_nil ?_
      exact ex_next [0] (hn6 (n6, (s3 ++ ([u21] : List Str)), s5 + 1, s5 + 1, a23, c23, F23) (Nat.lt_succ_self _) h) ⟨rfl, rfl, rfl, rfl, trivial⟩ (by kernel_rfl)
    · skip
      replace h := bf cc2 h
      have q3 := eqb_false.1 cc2
      refine cw_skip ?_
      refine ex_block_normal ?_
      refine ex_seq ?_
      refine cw_region ?_
      refine wl_u rfl (ow_y (yh_move rfl rfl) rfl rfl (kk_wl ?_))
      refine wl_u rfl (ow_y (yh_arI rfl rfl rfl rfl (by omega)) rfl rfl (kk_wl ?_))
      refine wl_u rfl (ow_y (yh_assign rfl rfl) rfl rfl (kk_wl ?_))
      refine wl_nil ?_
      exact ex_next [0] (hn6 (n6, s3, s4, s5 + 1, as3, cs3, Fs3) (Nat.lt_succ_self _) h) ⟨rfl, rfl, rfl, rfl, trivial⟩ (by kernel_rfl)
  · skip
    replace h := bf cc1 h
    have q4 := ltb_false.1 cc1
    refine cw_exit ?_
    refine ex_then_exit ?_
    refine ex_then_exit ?_
    obtain rfl := Option.some.inj h
    have h := go_brk hk6
    refine ex_block_exit ?_
    refine ex_seq ?_
    refine cw_seq ?_
    refine cw_region ?_
    refine wl_u rfl (ow_y (yh_move rfl rfl) rfl rfl (kk_wl ?_))
    refine wl_u rfl (ow_y (yh_move rfl rfl) rfl rfl (kk_wl ?_))
    refine wl_u rfl (ow_y (yh_move rfl rfl) rfl rfl (kk_wl ?_))
    obtain ⟨u29, zu29, h⟩ := bd h
    refine wl_u rfl (ow_y (yh_strL zu29 rfl rfl rfl (by kernel_rfl)) rfl rfl (kk_wl ?_))
    refine wl_u rfl (ow_lit1 Tb rfl rfl rfl rfl rfl rfl rfl rfl rfl rfl (fun g30 => kk_chg (c' := owC strsL [g30] [.slice (some ⟨g30, 0, none⟩) 1 1] ([u29] : List Str)) 0 rfl (fun w hA => own_strsL ([u29] : List Str) hA rfl (by simp [maxLen])) rfl (kk_wl ?_)))
    obtain ⟨hll31, h⟩ := bd_appd h
    refine wl_u rfl (ow_appP Tb (i := 1) rfl rfl rfl rfl rfl (fun w hw => rdo (A := strsL) 0 rfl hw) rfl rfl rfl rfl hll31 (by decide) rfl rfl (fun a31 c31 F31 => kk_wl ?_))
    refine wl_u rfl (ow_y (yh_assign rfl rfl) rfl rfl (kk_wl ?_))
    refine wl_nil ?_
    refine ex_seq ?_
    refine cw_ret ?_
    obtain rfl := Option.some.inj h
    exact ex_r1 Tb rfl (.tmp rfl) (fun wq hq => ⟨_, rfl, hq.ext, ⟨a31, c31, F31, rfl, NewC.sel [0] hq rfl⟩⟩)

def m_spec_l5Number_L8 (N : Nat) (s_ : Str) : Nat → Int → Nat → Option (Ex (Int × Nat) (Int))
  | 0, _, _ => none
  | n + 1, s3, s4 => (bif ltb ((s4 : Nat) : Int) ((s_.size : Nat) : Int) then (bget s_ s4).bind fun y17 => (bif ltb ((y17 : Nat) : Int) 48 then some (Ex.ret (-1))
 else (bget s_ s4).bind fun y22 => (bif ltb 57 ((y22 : Nat) : Int) then some (Ex.ret (-1))
 else (bget s_ s4).bind fun y29 => m_spec_l5Number_L8 N s_ n (w64 ((w64 (10 * s3)) + (u8w (((y29 : Nat) : Int) - 48)))) (s4 + 1)))
 else some (Ex.brk (s3, s4)))

def m_spec_l5Number (N : Nat) (s_ : Str) : Option (Int) := (ssz s_).bind fun z6 => (m_spec_l6In N ((s_.size : Nat) : Int) 1 4).bind fun x7 => (bif !x7 then some (-1)
 else (m_spec_l5Number_L8 N s_ N 0 0).bind fun e8 => e8.go (fun r => r) fun b8 => some b8.1)

set_option maxHeartbeats 4000000 in
theorem c_spec_l5Number (N : Nat) (s_ : Str) (res : Int) (h : m_spec_l5Number N s_ = some res) (w : World) : Ret Tryd.prog 50 [.string s_] w [] fun v w' => v = .int .i64 res := by
  unfold m_spec_l5Number at h
  refine ret_enter Tryd.func50 rfl Tryd.ntmps50 rfl (Hp.refl w _) ?_
  refine cw_seq ?_
  refine cw_region ?_
  refine wl_u rfl (ow_y (yh_assign rfl rfl) rfl rfl (kk_wl ?_))
  refine wl_nil ?_
  refine ex_seq ?_
  refine cw_seq ?_
  refine cw_seq ?_
  refine cw_region ?_
  refine wl_u rfl (ow_y (yh_move rfl rfl) rfl rfl (kk_wl ?_))
  obtain ⟨z6, hz6, h⟩ := bd h
  have mz6 := ssz_some hz6
  refine wl_u rfl (ow_y (yh_lenT Tb rfl rfl rfl rfl) rfl rfl (kk_wl ?_))
  obtain ⟨x7, hx7, h⟩ := bd h
  refine wl_u rfl (ow_cV rfl hb28 rfl (fun w hw => c_spec_l6In N _ _ _ _ hx7 w) rfl rfl (kk_wl ?_))
  refine wl_u rfl (ow_y (yh_not rfl rfl) rfl rfl (kk_wl ?_))
  refine wl_nil ?_
  refine ex_seq ?_
  refine cw_split rfl (fun cc1 => ?_) (fun cc1 => ?_)
  · skip
    replace h := bt cc1 h
    refine cw_seq ?_
    refine cw_region ?_
    refine wl_u rfl (ow_y (yh_assign rfl rfl) rfl rfl (kk_wl ?_))
    refine wl_nil ?_
    refine ex_seq ?_
    refine cw_ret ?_
    refine ex_then_ret ?_
    obtain rfl := Option.some.inj h
    exact ex_r1 Tb rfl (.tmp rfl) (fun wq hq => ⟨_, rfl, hq.ext, rfl⟩)
  · skip
    replace h := bf cc1 h
    refine cw_skip ?_
    refine ex_seq ?_
    refine cw_seq ?_
    refine cw_region ?_
    refine wl_u rfl (ow_y (yh_assign rfl rfl) rfl rfl (kk_wl ?_))
    refine wl_nil ?_
    refine ex_seq ?_
    refine cw_seq ?_
    refine cw_seq ?_
    refine cw_region ?_
    refine wl_u rfl (ow_y (yh_assign rfl rfl) rfl rfl (kk_wl ?_))
    refine wl_nil ?_
    refine ex_seq ?_
    refine cw_block ?_
    obtain ⟨e8, he8, hk8⟩ := bd h
    clear h
    refine cw_loopG (σ := Nat × Int × Nat) (fun s => m_spec_l5Number_L8 N s_ s.1 s.2.1 s.2.2 = some e8) (fun s => [(0, .string s_), (3, .int .i64 s.2.1), (4, .int .i64 ((s.2.2 : Nat) : Int))]) (fun s => []) (fun s => s.1) (N, 0, 0) [] he8 ⟨rfl, rfl, rfl, trivial⟩ rfl (fun KL s he8 hn8 => ?_)
    obtain ⟨n8, s3, s4⟩ := s
    simp only at he8 hn8 ⊢
    rcases n8 with _ | n8
    · exact nosome he8
    have h := he8; rw [m_spec_l5Number_L8] at h
    refine cw_seq ?_
    refine cw_seq ?_
    refine cw_region ?_
    refine wl_u rfl (ow_y (yh_move rfl rfl) rfl rfl (kk_wl ?_))
    refine wl_u rfl (ow_y (yh_move rfl rfl) rfl rfl (kk_wl ?_))
    refine wl_u rfl (ow_y (yh_lenT Tb rfl rfl rfl rfl) rfl rfl (kk_wl ?_))
    refine wl_u rfl (ow_y (yh_cmpI rfl rfl rfl rfl) rfl rfl (kk_wl ?_))
    refine wl_nil ?_
    refine ex_seq ?_
    refine cw_split rfl (fun cc2 => ?_) (fun cc2 => ?_)
    · skip
      replace h := bt cc2 h
      have q1 := ltb_true.1 cc2
      refine cw_skip ?_
      refine ex_seq ?_
      refine cw_seq ?_
      refine cw_block ?_
      refine cw_seq ?_
      refine cw_seq ?_
      refine cw_region ?_
      refine wl_u rfl (ow_y (yh_move rfl rfl) rfl rfl (kk_wl ?_))
      refine wl_u rfl (ow_y (yh_move rfl rfl) rfl rfl (kk_wl ?_))
      obtain ⟨y17, hy17, h⟩ := bd h
      refine wl_u rfl (ow_y (yh_indexS Tb (k := s4) rfl rfl rfl rfl hy17 rfl) rfl rfl (kk_wl ?_))
      refine wl_u rfl (ow_y (yh_cmpI rfl rfl rfl rfl) rfl rfl (kk_wl ?_))
      refine wl_u rfl (ow_y (yh_move rfl rfl) rfl rfl (kk_wl ?_))
      refine wl_s rfl rfl (fun cc3 => ?_) (fun cc3 => ?_)
      · skip
        replace h := bt cc3 h
        have q2 := ltb_true.1 cc3
        refine wl_n rfl rfl rfl rfl ?_
        refine wl_n rfl rfl rfl rfl ?_
        refine wl_n rfl rfl rfl rfl ?_
        refine wl_n rfl rfl rfl rfl ?_
        refine wl_u rfl (ow_y (yh_pickT rfl rfl rfl) rfl rfl (kk_wl ?_))
        refine wl_nil ?_
        refine ex_seq ?_
        refine cw_true rfl ?_
        refine cw_seq ?_
        refine cw_region ?_
        refine wl_u rfl (ow_y (yh_assign rfl rfl) rfl rfl (kk_wl ?_))
        refine wl_nil ?_
        refine ex_seq ?_
        refine cw_ret ?_
        refine ex_then_ret ?_
        refine ex_block_ret ?_
        refine ex_then_ret ?_
        refine ex_then_ret ?_
        refine ex_block_ret ?_
        refine ex_then_ret ?_
        obtain rfl := Option.some.inj h
        obtain rfl := go_ret hk8
        exact ex_r1 Tb rfl (.tmp rfl) (fun wq hq => ⟨_, rfl, hq.ext, rfl⟩)
      · skip
        replace h := bf cc3 h
        have q3 := ltb_false.1 cc3
        refine wl_g rfl rfl (ow_y (yh_move rfl rfl) rfl rfl (kk_wl ?_))
        refine wl_g rfl rfl (ow_y (yh_move rfl rfl) rfl rfl (kk_wl ?_))
        obtain ⟨y22, hy22, h⟩ := bd h
        refine wl_g rfl rfl (ow_y (yh_indexS Tb (k := s4) rfl rfl rfl rfl hy22 rfl) rfl rfl (kk_wl ?_))
        refine wl_g rfl rfl (ow_y (yh_cmpI rfl rfl rfl rfl) rfl rfl (kk_wl ?_))
        refine wl_u rfl (ow_y (yh_pickF rfl rfl rfl) rfl rfl (kk_wl ?_))
        refine wl_nil ?_
        refine ex_seq ?_
        refine cw_split rfl (fun cc4 => ?_) (fun cc4 => ?_)
        · skip
          replace h := bt cc4 h
          have q4 := ltb_true.1 cc4
          refine cw_seq ?_
          refine cw_region ?_
          refine wl_u rfl (ow_y (yh_assign rfl rfl) rfl rfl (kk_wl ?_))
          refine wl_nil ?_
          refine ex_seq ?_
          refine cw_ret ?_
          refine ex_then_ret ?_
          refine ex_block_ret ?_
          refine ex_then_ret ?_
          refine ex_then_ret ?_
          refine ex_block_ret ?_
          refine ex_then_ret ?_
          obtain rfl := Option.some.inj h
          obtain rfl := go_ret hk8
          exact ex_r1 Tb rfl (.tmp rfl) (fun wq hq => ⟨_, rfl, hq.ext, rfl⟩)
        · skip
          replace h := bf cc4 h
          have q5 := ltb_false.1 cc4
          refine cw_skip ?_
          refine ex_seq ?_
          refine cw_region ?_
          refine wl_u rfl (ow_y (yh_move rfl rfl) rfl rfl (kk_wl ?_))
          refine wl_u rfl (ow_y (yh_arW rfl rfl rfl rfl) rfl rfl (kk_wl ?_))
          refine wl_u rfl (ow_y (yh_move rfl rfl) rfl rfl (kk_wl ?_))
          refine wl_u rfl (ow_y (yh_move rfl rfl) rfl rfl (kk_wl ?_))
          obtain ⟨y29, hy29, h⟩ := bd h
          refine wl_u rfl (ow_y (yh_indexS Tb (k := s4) rfl rfl rfl rfl hy29 rfl) rfl rfl (kk_wl ?_))
          refine wl_u rfl (ow_y (yh_subU rfl rfl rfl) rfl rfl (kk_wl ?_))
          refine wl_u rfl (ow_y (yh_conv rfl rfl (by kernel_rfl) (u8w_fit _)) rfl rfl (kk_wl ?_))
          refine wl_u rfl (ow_y (yh_arW rfl rfl rfl rfl) rfl rfl (kk_wl ?_))
          refine wl_u rfl (ow_y (yh_assign rfl rfl) rfl rfl (kk_wl ?_))
          refine wl_nil ?_
          refine ex_block_normal ?_
          refine ex_seq ?_
          refine cw_region ?_
          refine wl_u rfl (ow_y (yh_move rfl rfl) rfl rfl (kk_wl ?_))
          refine wl_u rfl (ow_y (yh_arI rfl rfl rfl rfl (by omega)) rfl rfl (kk_wl ?_))
          refine wl_u rfl (ow_y (yh_assign rfl rfl) rfl rfl (kk_wl ?_))
          refine wl_nil ?_
          exact ex_next [] (hn8 (n8, w64 ((w64 (10 * s3)) + (u8w (((y29 : Nat) : Int) - 48))), s4 + 1) (Nat.lt_succ_self _) h) ⟨rfl, rfl, rfl, trivial⟩ (by kernel_rfl)
    · skip
      replace h := bf cc2 h
      have q6 := ltb_false.1 cc2
      refine cw_exit ?_
      refine ex_then_exit ?_
      refine ex_then_exit ?_
      obtain rfl := Option.some.inj h
      have h := go_brk hk8
      refine ex_block_exit ?_
      refine ex_seq ?_
      refine cw_seq ?_
      refine cw_region ?_
      refine wl_u rfl (ow_y (yh_move rfl rfl) rfl rfl (kk_wl ?_))
      refine wl_u rfl (ow_y (yh_assign rfl rfl) rfl rfl (kk_wl ?_))
      refine wl_nil ?_
      refine ex_seq ?_
      refine cw_ret ?_
      obtain rfl := Option.some.inj h
      exact ex_r1 Tb rfl (.tmp rfl) (fun wq hq => ⟨_, rfl, hq.ext, rfl⟩)

def m_spec_EventFrom_L10 (N : Nat) (s_ : Str) (x10 : List Str) (x18 : Int) : Nat → Nat → Option (Ex (Nat) (Int × Event × Bool))
  | 0, _ => none
  | n + 1, s7 => (bif leb ((s7 : Nat) : Int) 3 then (x10[2]?).bind fun y25 => (m_spec_EventText N x18 (Event.mk ((s7 : Nat) : Int) y25)).bind fun x30 => (bif seq x30 s_ then (bif !(seq s_ (⟨#[]⟩ : Str)) then some (Ex.ret (x18, (Event.mk ((s7 : Nat) : Int) y25), true))
 else m_spec_EventFrom_L10 N s_ x10 x18 n (s7 + 1))
 else m_spec_EventFrom_L10 N s_ x10 x18 n (s7 + 1))
 else some (Ex.brk (s7)))

def m_spec_EventFrom (N : Nat) (s_ : Str) : Option (Int × Event × Bool) := (m_spec_l5Cut N s_).bind fun x10 => (bif !(eqb ((x10.length : Nat) : Int) 4) then some (0, (Event.mk 0 (⟨#[]⟩ : Str)), false)
 else (x10[0]?).bind fun y16 => (m_spec_l5Number N y16).bind fun x18 => (m_spec_EventFrom_L10 N s_ x10 x18 N 1).bind fun e10 => e10.go (fun r => r) fun b10 => some (0, (Event.mk 0 (⟨#[]⟩ : Str)), false))

set_option maxHeartbeats 4000000 in
theorem c_spec_EventFrom (N : Nat) (s_ : Str) (res : Int × Event × Bool) (h : m_spec_EventFrom N s_ = some res) (w : World) : Ret Tryd.prog 33 [.string s_] w [] fun v w' => v = .tuple #[.int .i64 res.1, .agg #[.int .i64 res.2.1.kind, .string res.2.1.name], .bool res.2.2] := by
  unfold m_spec_EventFrom at h
  refine ret_enter Tryd.func33 rfl Tryd.ntmps33 rfl (Hp.refl w _) ?_
  refine cw_seq ?_
  refine cw_region ?_
  refine wl_u rfl (ow_y (yh_assign rfl rfl) rfl rfl (kk_wl ?_))
  refine wl_u rfl (ow_allocA Tb rfl rfl rfl rfl (fun g3 => kk_wl ?_))
  refine wl_u rfl (ow_y (yh_assign rfl rfl) rfl rfl (kk_wl ?_))
  refine wl_nil ?_
  refine ex_seq ?_
  refine cw_seq ?_
  refine cw_region ?_
  refine wl_u rfl (ow_y (yh_move rfl rfl) rfl rfl (kk_wl ?_))
  obtain ⟨x10, hx10, h⟩ := bd h
  refine wl_u rfl (ow_cN1 rfl hb49 rfl (fun w hw => c_spec_l5Cut N _ _ hx10 w) rfl rfl (fun a10 c10 F10 => kk_wl ?_))
  refine wl_u rfl (ow_y (yh_assign rfl rfl) rfl rfl (kk_wl ?_))
  refine wl_nil ?_
  refine ex_seq ?_
  refine cw_seq ?_
  refine cw_seq ?_
  refine cw_region ?_
  refine wl_u rfl (ow_y (yh_move rfl rfl) rfl rfl (kk_wl ?_))
  refine wl_know (x10.length ≤ 9223372036854775807) (fun w hw => own_max 0 rfl hw) (fun mo12 => ?_)
  refine wl_u rfl (ow_y (yh_lenS Tb rfl rfl rfl rfl) rfl rfl (kk_wl ?_))
  refine wl_u rfl (ow_y (yh_cmpI rfl rfl rfl rfl) rfl rfl (kk_wl ?_))
  refine wl_nil ?_
  refine ex_seq ?_
  refine cw_split rfl (fun cc1 => ?_) (fun cc1 => ?_)
  · skip
    replace h := bt cc1 h
    have q1 := eqb_false.1 (nt cc1)
    refine cw_seq ?_
    refine cw_region ?_
    refine wl_u rfl (ow_y (yh_build [.int .i64 0, .string (⟨#[]⟩ : Str)] rfl rfl (by kernel_rfl)) rfl rfl (kk_wl ?_))
    refine wl_u rfl (ow_y (yh_assign rfl rfl) rfl rfl (kk_wl ?_))
    refine wl_u rfl (ow_storeA Tb (k := 1) rfl rfl rfl rfl rfl rfl rfl rfl rfl (kk_wl ?_))
    refine wl_u rfl (ow_y (yh_assign rfl rfl) rfl rfl (kk_wl ?_))
    refine wl_nil ?_
    refine ex_seq ?_
    refine cw_ret ?_
    refine ex_then_ret ?_
    obtain rfl := Option.some.inj h
    exact ex_r3 Tb rfl (.tmp rfl) (.cellA 0 rfl rfl rfl rfl rfl) (.tmp rfl) (fun wq hq => ⟨_, rfl, hq.ext, rfl⟩)
  · skip
    replace h := bf cc1 h
    have q2 := eqb_true.1 (nf cc1)
    refine cw_skip ?_
    refine ex_seq ?_
    refine cw_seq ?_
    refine cw_region ?_
    refine wl_u rfl (ow_y (yh_move rfl rfl) rfl rfl (kk_wl ?_))
    obtain ⟨y16, hy16, h⟩ := bd h
    refine wl_ex (fun g => a10 = some ⟨g, 0, none⟩) (fun w hw => by exact own_addrK 0 rfl hy16 hw) (fun g16 hg16 => ?_)
    subst hg16
    refine wl_u rfl (ow_y (yh_idx Tb (k := 0) rfl rfl rfl rfl (get_lt hy16) rfl rfl) rfl rfl (kk_wl ?_))
    refine wl_u rfl (ow_y (yh_loadO0 Tb 0 rfl rfl rfl rfl rfl hy16 rfl) rfl rfl (kk_wl ?_))
    obtain ⟨x18, hx18, h⟩ := bd h
    refine wl_u rfl (ow_cV rfl hb50 rfl (fun w hw => c_spec_l5Number N _ _ hx18 w) rfl rfl (kk_wl ?_))
    refine wl_u rfl (ow_y (yh_assign rfl rfl) rfl rfl (kk_wl ?_))
    refine wl_nil ?_
    refine ex_seq ?_
    refine cw_seq ?_
    refine cw_seq ?_
    refine cw_region ?_
    refine wl_u rfl (ow_y (yh_assign rfl rfl) rfl rfl (kk_wl ?_))
    refine wl_nil ?_
    refine ex_seq ?_
    refine cw_block ?_
    obtain ⟨e10, he10, hk10⟩ := bd h
    clear h
    refine cw_loopG (σ := Nat × Nat) (fun s => m_spec_EventFrom_L10 N s_ x10 x18 s.1 s.2 = some e10) (fun s => [(0, .string s_), (3, .pointer (some ⟨g3, 0, none⟩)), (5, .slice (some ⟨g16, 0, none⟩) x10.length c10), (6, .int .i64 x18), (7, .int .i64 ((s.2 : Nat) : Int))]) (fun s => [blkC g3 35 [.int .i64 0, .string (⟨#[]⟩ : Str)], owC strsL F10 [.slice (some ⟨g16, 0, none⟩) x10.length c10] x10]) (fun s => s.1) (N, 1) [1, 0] he10 ⟨rfl, rfl, rfl, rfl, rfl, trivial⟩ rfl (fun KL s he10 hn10 => ?_)
    obtain ⟨n10, s7⟩ := s
    simp only at he10 hn10 ⊢
    rcases n10 with _ | n10
    · exact nosome he10
    have h := he10; rw [m_spec_EventFrom_L10] at h
    refine cw_seq ?_
    refine cw_seq ?_
    refine cw_region ?_
    refine wl_u rfl (ow_y (yh_move rfl rfl) rfl rfl (kk_wl ?_))
    refine wl_u rfl (ow_y (yh_cmpI rfl rfl rfl rfl) rfl rfl (kk_wl ?_))
    refine wl_nil ?_
    refine ex_seq ?_
    refine cw_split rfl (fun cc2 => ?_) (fun cc2 => ?_)
    · skip
      replace h := bt cc2 h
      have q3 := leb_true.1 cc2
      refine cw_skip ?_
      refine ex_seq ?_
      refine cw_seq ?_
      refine cw_block ?_
      refine cw_seq ?_
      refine cw_region ?_
      refine wl_u rfl (ow_y (yh_move rfl rfl) rfl rfl (kk_wl ?_))
      refine wl_u rfl (ow_y (yh_move rfl rfl) rfl rfl (kk_wl ?_))
      obtain ⟨y25, hy25, h⟩ := bd h
      refine wl_u rfl (ow_y (yh_idx Tb (k := 2) rfl rfl rfl rfl (get_lt hy25) rfl rfl) rfl rfl (kk_wl ?_))
      refine wl_u rfl (ow_y (yh_loadO0 Tb 1 rfl rfl rfl rfl rfl hy25 rfl) rfl rfl (kk_wl ?_))
      refine wl_u rfl (ow_y (yh_buildA rfl rfl (by kernel_rfl)) rfl rfl (kk_wl ?_))
      refine wl_u rfl (ow_allocA Tb rfl rfl rfl rfl (fun g8 => kk_wl ?_))
      refine wl_u rfl (ow_storeA Tb (k := 0) rfl rfl rfl rfl rfl rfl rfl rfl rfl (kk_wl ?_))
      refine wl_nil ?_
      refine ex_seq ?_
      refine cw_seq ?_
      refine cw_region ?_
      refine wl_u rfl (ow_y (yh_move rfl rfl) rfl rfl (kk_wl ?_))
      refine wl_u rfl (ow_y (yh_loadBA Tb (k := 0) rfl rfl rfl rfl rfl rfl) rfl rfl (kk_wl ?_))
      obtain ⟨x30, hx30, h⟩ := bd h
      refine wl_u rfl (ow_cV rfl hb27 rfl (fun w hw => c_spec_EventText N _ _ _ hx30 w) rfl rfl (kk_wl ?_))
      refine wl_u rfl (ow_y (yh_move rfl rfl) rfl rfl (kk_wl ?_))
      refine wl_u rfl (ow_y (yh_cmpS rfl rfl rfl rfl) rfl rfl (kk_wl ?_))
      refine wl_u rfl (ow_y (yh_move rfl rfl) rfl rfl (kk_wl ?_))
      refine wl_s rfl rfl (fun cc3 => ?_) (fun cc3 => ?_)
      · skip
        replace h := bt cc3 h
        refine wl_g rfl rfl (ow_y (yh_move rfl rfl) rfl rfl (kk_wl ?_))
        refine wl_g rfl rfl (ow_y (yh_cmpS rfl rfl rfl rfl) rfl rfl (kk_wl ?_))
        refine wl_u rfl (ow_y (yh_pickT rfl rfl rfl) rfl rfl (kk_wl ?_))
        refine wl_nil ?_
        refine ex_seq ?_
        refine cw_split rfl (fun cc4 => ?_) (fun cc4 => ?_)
        · skip
          replace h := bt cc4 h
          refine cw_seq ?_
          refine cw_dr [0, 1, 2] [3, 4] [blkC g8 35 [.int .i64 ((s7 : Nat) : Int), .string y25], blkC g3 35 [.int .i64 0, .string (⟨#[]⟩ : Str)], owC strsL F10 [.slice (some ⟨g16, 0, none⟩) x10.length c10] x10] (by kernel_rfl) ?_
          refine wd_take (i := 0) [0, 1, 2] rfl rfl rfl rfl rfl (by kernel_rfl) (by kernel_rfl) (fun _ _ _ _ h => h) (yh_move rfl rfl) ?_
          refine wd_take (i := 1) [0, 1, 2] rfl rfl rfl rfl rfl (by kernel_rfl) (by kernel_rfl) (fun _ _ _ _ h => h) (yh_loadBA Tb (k := 0) rfl rfl rfl rfl rfl rfl) ?_
          refine wd_take (i := 2) [0, 1, 2] rfl rfl rfl rfl rfl (by kernel_rfl) (by kernel_rfl) (fun _ _ _ _ h => h) (yh_assign rfl rfl) ?_
          refine wd_one 3 rfl rfl (by kernel_rfl) (ow_storeA Tb (k := 1) rfl rfl rfl rfl rfl rfl rfl rfl rfl (kk_wdT rfl ?_))
          refine wd_one 4 rfl rfl (by kernel_rfl) (ow_y (yh_assign rfl rfl) rfl rfl (kk_wdT rfl ?_))
          refine wd_done (by kernel_rfl) ?_
          refine ex_seq ?_
          refine cw_ret ?_
          refine ex_block_ret ?_
          refine ex_then_ret ?_
          refine ex_then_ret ?_
          refine ex_block_ret ?_
          refine ex_then_ret ?_
          obtain rfl := Option.some.inj h
          obtain rfl := go_ret hk10
          exact ex_r3 Tb rfl (.tmp rfl) (.cellA 0 rfl rfl rfl rfl rfl) (.tmp rfl) (fun wq hq => ⟨_, rfl, hq.ext, rfl⟩)
        · skip
          replace h := bf cc4 h
          refine cw_skip ?_
          refine ex_block_normal ?_
          refine ex_seq ?_
          refine cw_region ?_
          refine wl_u rfl (ow_y (yh_move rfl rfl) rfl rfl (kk_wl ?_))
          refine wl_u rfl (ow_y (yh_arI rfl rfl rfl rfl (by omega)) rfl rfl (kk_wl ?_))
          refine wl_u rfl (ow_y (yh_assign rfl rfl) rfl rfl (kk_wl ?_))
          refine wl_nil ?_
          exact ex_next [1, 2] (hn10 (n10, s7 + 1) (Nat.lt_succ_self _) h) ⟨rfl, rfl, rfl, rfl, rfl, trivial⟩ (by kernel_rfl)
      · skip
        replace h := bf cc3 h
        refine wl_n rfl rfl rfl rfl ?_
        refine wl_n rfl rfl rfl rfl ?_
        refine wl_u rfl (ow_y (yh_pickF rfl rfl rfl) rfl rfl (kk_wl ?_))
        refine wl_nil ?_
        refine ex_seq ?_
        refine cw_false rfl ?_
        refine cw_skip ?_
        refine ex_block_normal ?_
        refine ex_seq ?_
        refine cw_region ?_
        refine wl_u rfl (ow_y (yh_move rfl rfl) rfl rfl (kk_wl ?_))
        refine wl_u rfl (ow_y (yh_arI rfl rfl rfl rfl (by omega)) rfl rfl (kk_wl ?_))
        refine wl_u rfl (ow_y (yh_assign rfl rfl) rfl rfl (kk_wl ?_))
        refine wl_nil ?_
        exact ex_next [1, 2] (hn10 (n10, s7 + 1) (Nat.lt_succ_self _) h) ⟨rfl, rfl, rfl, rfl, rfl, trivial⟩ (by kernel_rfl)
    · skip
      replace h := bf cc2 h
      have q4 := leb_false.1 cc2
      refine cw_exit ?_
      refine ex_then_exit ?_
      refine ex_then_exit ?_
      obtain rfl := Option.some.inj h
      have h := go_brk hk10
      refine ex_block_exit ?_
      refine ex_seq ?_
      refine cw_seq ?_
      refine cw_region ?_
      refine wl_u rfl (ow_y (yh_build [.int .i64 0, .string (⟨#[]⟩ : Str)] rfl rfl (by kernel_rfl)) rfl rfl (kk_wl ?_))
      refine wl_u rfl (ow_y (yh_assign rfl rfl) rfl rfl (kk_wl ?_))
      refine wl_u rfl (ow_storeA Tb (k := 0) rfl rfl rfl rfl rfl rfl rfl rfl rfl (kk_wl ?_))
      refine wl_u rfl (ow_y (yh_assign rfl rfl) rfl rfl (kk_wl ?_))
      refine wl_nil ?_
      refine ex_seq ?_
      refine cw_ret ?_
      obtain rfl := Option.some.inj h
      exact ex_r3 Tb rfl (.tmp rfl) (.cellA 0 rfl rfl rfl rfl rfl) (.tmp rfl) (fun wq hq => ⟨_, rfl, hq.ext, rfl⟩)

def m_spec_JournalFrom_L5 (N : Nat) (text : Str) : Nat → (List Event) → Int → Option (Ex (List Event × Int) (List Event × Int × Int))
  | 0, _, _ => none
  | n + 1, s5, s6 => (ssz text).bind fun z14 => (bif ltb s6 ((text.size : Nat) : Int) then (m_spec_l5End N text s6).bind fun x18 => (bif ltb x18 0 then some (Ex.ret (s5, s6, 1))
 else (ssub text s6 x18).bind fun u27 => (m_spec_EventFrom N u27).bind fun x28 => (bif !x28.2.2 then some (Ex.ret (s5, s6, 2))
 else (lsz s5.length).bind fun v38_ => (bif !(eqb x28.1 (((s5.length : Nat) : Int) + 1)) then some (Ex.ret (s5, s6, 2))
 else (appd s5 ([x28.2.1] : List Event)).bind fun l46 => m_spec_JournalFrom_L5 N text n (s5 ++ ([x28.2.1] : List Event)) (w64 (x18 + 1)))))
 else some (Ex.brk (s5, s6)))

def m_spec_JournalFrom (N : Nat) (text : Str) : Option (List Event × Int × Int) := (m_spec_JournalFrom_L5 N text N ([] : List Event) 0).bind fun e5 => e5.go (fun r => r) fun b5 => some (b5.1, b5.2, 0)

set_option maxHeartbeats 4000000 in
theorem c_spec_JournalFrom (N : Nat) (text : Str) (res : List Event × Int × Int) (h : m_spec_JournalFrom N text = some res) (w : World) : Ret Tryd.prog 15 [.string text] w [] fun v w' => ∃ a1 c1 F1, v = .tuple #[.slice a1 res.1.length c1, .int .i64 res.2.1, .int .i64 res.2.2] ∧ NewC w w' [owC eventsL F1 [.slice a1 res.1.length c1] res.1] := by
  unfold m_spec_JournalFrom at h
  refine ret_enter Tryd.func15 rfl Tryd.ntmps15 rfl (Hp.refl w _) ?_
  refine cw_seq ?_
  refine cw_region ?_
  refine wl_u rfl (ow_y (yh_assign rfl rfl) rfl rfl (kk_wl ?_))
  refine wl_u rfl (ow_y (yh_assign rfl rfl) rfl rfl (kk_wl ?_))
  refine wl_u rfl (ow_y (yh_assign rfl rfl) rfl rfl (kk_wl ?_))
  refine wl_nil ?_
  refine ex_seq ?_
  refine cw_seq ?_
  refine cw_region ?_
  refine wl_u rfl (ow_lit0 Tb rfl rfl rfl rfl rfl rfl (fun g11 => kk_chg (c' := owC eventsL [g11] [.slice (some ⟨g11, 0, none⟩) 0 0] ([] : List Event)) 0 rfl (fun w hA => own_eventsL ([] : List Event) hA rfl (by simp [maxLen])) rfl (kk_wl ?_)))
  refine wl_u rfl (ow_y (yh_assign rfl rfl) rfl rfl (kk_wl ?_))
  refine wl_nil ?_
  refine ex_seq ?_
  refine cw_seq ?_
  refine cw_region ?_
  refine wl_u rfl (ow_y (yh_assign rfl rfl) rfl rfl (kk_wl ?_))
  refine wl_nil ?_
  refine ex_seq ?_
  refine cw_seq ?_
  refine cw_block ?_
  obtain ⟨e5, he5, hk5⟩ := bd h
  clear h
  refine cw_loopG (σ := Nat × (List Event) × Int × (Option Addr) × Nat × (List Nat)) (fun s => m_spec_JournalFrom_L5 N text s.1 s.2.1 s.2.2.1 = some e5) (fun s => [(0, .string text), (5, .slice s.2.2.2.1 s.2.1.length s.2.2.2.2.1), (6, .int .i64 s.2.2.1)]) (fun s => [owC eventsL s.2.2.2.2.2 [.slice s.2.2.2.1 s.2.1.length s.2.2.2.2.1] s.2.1]) (fun s => s.1) (N, ([] : List Event), 0, (some ⟨g11, 0, none⟩), 0, [g11]) [0] he5 ⟨rfl, rfl, rfl, trivial⟩ rfl (fun KL s he5 hn5 => ?_)
  obtain ⟨n5, s5, s6, as5, cs5, Fs5⟩ := s
  simp only at he5 hn5 ⊢
  rcases n5 with _ | n5
  · exact nosome he5
  have h := he5; rw [m_spec_JournalFrom_L5] at h
  refine cw_seq ?_
  refine cw_seq ?_
  refine cw_region ?_
  refine wl_u rfl (ow_y (yh_move rfl rfl) rfl rfl (kk_wl ?_))
  refine wl_u rfl (ow_y (yh_move rfl rfl) rfl rfl (kk_wl ?_))
  obtain ⟨z14, hz14, h⟩ := bd h
  have mz14 := ssz_some hz14
  refine wl_u rfl (ow_y (yh_lenT Tb rfl rfl rfl rfl) rfl rfl (kk_wl ?_))
  refine wl_u rfl (ow_y (yh_cmpI rfl rfl rfl rfl) rfl rfl (kk_wl ?_))
  refine wl_nil ?_
  refine ex_seq ?_
  refine cw_split rfl (fun cc1 => ?_) (fun cc1 => ?_)
  · skip
    replace h := bt cc1 h
    have q1 := ltb_true.1 cc1
    refine cw_skip ?_
    refine ex_seq ?_
    refine cw_block ?_
    refine cw_seq ?_
    refine cw_region ?_
    refine wl_u rfl (ow_y (yh_move rfl rfl) rfl rfl (kk_wl ?_))
    refine wl_u rfl (ow_y (yh_move rfl rfl) rfl rfl (kk_wl ?_))
    obtain ⟨x18, hx18, h⟩ := bd h
    refine wl_u rfl (ow_cV rfl hb32 rfl (fun w hw => c_spec_l5End N _ _ _ hx18 w) rfl rfl (kk_wl ?_))
    refine wl_u rfl (ow_y (yh_assign rfl rfl) rfl rfl (kk_wl ?_))
    refine wl_nil ?_
    refine ex_seq ?_
    refine cw_seq ?_
    refine cw_seq ?_
    refine cw_region ?_
    refine wl_u rfl (ow_y (yh_move rfl rfl) rfl rfl (kk_wl ?_))
    refine wl_u rfl (ow_y (yh_cmpI rfl rfl rfl rfl) rfl rfl (kk_wl ?_))
    refine wl_nil ?_
    refine ex_seq ?_
    refine cw_split rfl (fun cc2 => ?_) (fun cc2 => ?_)
    · skip
      replace h := bt cc2 h
      have q2 := ltb_true.1 cc2
      refine cw_seq ?_
      refine cw_region ?_
      refine wl_u rfl (ow_y (yh_move rfl rfl) rfl rfl (kk_wl ?_))
      refine wl_u rfl (ow_y (yh_move rfl rfl) rfl rfl (kk_wl ?_))
      refine wl_u rfl (ow_y (yh_assign rfl rfl) rfl rfl (kk_wl ?_))
      refine wl_u rfl (ow_y (yh_assign rfl rfl) rfl rfl (kk_wl ?_))
      refine wl_u rfl (ow_y (yh_assign rfl rfl) rfl rfl (kk_wl ?_))
      refine wl_nil ?_
      refine ex_seq ?_
      refine cw_ret ?_
      refine ex_then_ret ?_
      refine ex_block_ret ?_
      refine ex_then_ret ?_
      refine ex_block_ret ?_
      refine ex_then_ret ?_
      obtain rfl := Option.some.inj h
      obtain rfl := go_ret hk5
      exact ex_r3 Tb rfl (.tmp rfl) (.tmp rfl) (.tmp rfl) (fun wq hq => ⟨_, rfl, hq.ext, ⟨as5, cs5, Fs5, rfl, NewC.sel [0] hq rfl⟩⟩)
    · skip
      replace h := bf cc2 h
      have q3 := ltb_false.1 cc2
      refine cw_skip ?_
      refine ex_seq ?_
      refine cw_seq ?_
      refine cw_region ?_
      refine wl_u rfl (ow_y (yh_move rfl rfl) rfl rfl (kk_wl ?_))
      refine wl_u rfl (ow_y (yh_move rfl rfl) rfl rfl (kk_wl ?_))
      refine wl_u rfl (ow_y (yh_move rfl rfl) rfl rfl (kk_wl ?_))
      obtain ⟨u27, zu27, h⟩ := bd h
      refine wl_u rfl (ow_y (yh_strLH zu27 rfl rfl rfl rfl (by kernel_rfl)) rfl rfl (kk_wl ?_))
      obtain ⟨x28, hx28, h⟩ := bd h
      refine wl_u rfl (ow_cV rfl hb33 rfl (fun w hw => c_spec_EventFrom N _ _ hx28 w) rfl rfl (kk_wl ?_))
      refine wl_u rfl (ow_y (yh_move rfl rfl) rfl rfl (kk_wl ?_))
      refine wl_u rfl (ow_y (yh_extract rfl rfl rfl) rfl rfl (kk_wl ?_))
      refine wl_u rfl (ow_y (yh_extract rfl rfl rfl) rfl rfl (kk_wl ?_))
      refine wl_u rfl (ow_y (yh_extract rfl rfl rfl) rfl rfl (kk_wl ?_))
      refine wl_u rfl (ow_allocA Tb rfl rfl rfl rfl (fun g9 => kk_wl ?_))
      refine wl_u rfl (ow_y (yh_assign rfl rfl) rfl rfl (kk_wl ?_))
      refine wl_u rfl (ow_storeA Tb (k := 0) rfl rfl rfl rfl rfl rfl rfl rfl rfl (kk_wl ?_))
      refine wl_u rfl (ow_y (yh_assign rfl rfl) rfl rfl (kk_wl ?_))
      refine wl_nil ?_
      refine ex_seq ?_
      refine cw_seq ?_
      refine cw_seq ?_
      refine cw_region ?_
      refine wl_u rfl (ow_y (yh_move rfl rfl) rfl rfl (kk_wl ?_))
      refine wl_u rfl (ow_y (yh_not rfl rfl) rfl rfl (kk_wl ?_))
      refine wl_u rfl (ow_y (yh_move rfl rfl) rfl rfl (kk_wl ?_))
      refine wl_s rfl rfl (fun cc3 => ?_) (fun cc3 => ?_)
      · skip
        replace h := bt cc3 h
        refine wl_n rfl rfl rfl rfl ?_
        refine wl_n rfl rfl rfl rfl ?_
        refine wl_n rfl rfl rfl rfl ?_
        refine wl_n rfl rfl rfl rfl ?_
        refine wl_n rfl rfl rfl rfl ?_
        refine wl_u rfl (ow_y (yh_pickT rfl rfl rfl) rfl rfl (kk_wl ?_))
        refine wl_nil ?_
        refine ex_seq ?_
        refine cw_true rfl ?_
        refine cw_seq ?_
        refine cw_region ?_
        refine wl_u rfl (ow_y (yh_move rfl rfl) rfl rfl (kk_wl ?_))
        refine wl_u rfl (ow_y (yh_move rfl rfl) rfl rfl (kk_wl ?_))
        refine wl_u rfl (ow_y (yh_assign rfl rfl) rfl rfl (kk_wl ?_))
        refine wl_u rfl (ow_y (yh_assign rfl rfl) rfl rfl (kk_wl ?_))
        refine wl_u rfl (ow_y (yh_assign rfl rfl) rfl rfl (kk_wl ?_))
        refine wl_nil ?_
        refine ex_seq ?_
        refine cw_ret ?_
        refine ex_then_ret ?_
        refine ex_block_ret ?_
        refine ex_then_ret ?_
        refine ex_block_ret ?_
        refine ex_then_ret ?_
        obtain rfl := Option.some.inj h
        obtain rfl := go_ret hk5
        exact ex_r3 Tb rfl (.tmp rfl) (.tmp rfl) (.tmp rfl) (fun wq hq => ⟨_, rfl, hq.ext, ⟨as5, cs5, Fs5, rfl, NewC.sel [1] hq rfl⟩⟩)
      · skip
        replace h := bf cc3 h
        refine wl_g rfl rfl (ow_y (yh_move rfl rfl) rfl rfl (kk_wl ?_))
        refine wl_g rfl rfl (ow_y (yh_move rfl rfl) rfl rfl (kk_wl ?_))
        refine wl_know (s5.length ≤ 9223372036854775807) (fun w hw => own_max 1 rfl hw) (fun mo37 => ?_)
        refine wl_g rfl rfl (ow_y (yh_lenS Tb rfl rfl rfl rfl) rfl rfl (kk_wl ?_))
        obtain ⟨v38_, hv38_, h⟩ := bd h
        have mv38_ := lsz_some hv38_
        refine wl_g rfl rfl (ow_y (yh_arI rfl rfl rfl rfl (by omega)) rfl rfl (kk_wl ?_))
        refine wl_g rfl rfl (ow_y (yh_cmpI rfl rfl rfl rfl) rfl rfl (kk_wl ?_))
        refine wl_u rfl (ow_y (yh_pickF rfl rfl rfl) rfl rfl (kk_wl ?_))
        refine wl_nil ?_
        refine ex_seq ?_
        refine cw_split rfl (fun cc4 => ?_) (fun cc4 => ?_)
        · skip
          replace h := bt cc4 h
          have q4 := eqb_false.1 (nt cc4)
          refine cw_seq ?_
          refine cw_region ?_
          refine wl_u rfl (ow_y (yh_move rfl rfl) rfl rfl (kk_wl ?_))
          refine wl_u rfl (ow_y (yh_move rfl rfl) rfl rfl (kk_wl ?_))
          refine wl_u rfl (ow_y (yh_assign rfl rfl) rfl rfl (kk_wl ?_))
          refine wl_u rfl (ow_y (yh_assign rfl rfl) rfl rfl (kk_wl ?_))
          refine wl_u rfl (ow_y (yh_assign rfl rfl) rfl rfl (kk_wl ?_))
          refine wl_nil ?_
          refine ex_seq ?_
          refine cw_ret ?_
          refine ex_then_ret ?_
          refine ex_block_ret ?_
          refine ex_then_ret ?_
          refine ex_block_ret ?_
          refine ex_then_ret ?_
          obtain rfl := Option.some.inj h
          obtain rfl := go_ret hk5
          exact ex_r3 Tb rfl (.tmp rfl) (.tmp rfl) (.tmp rfl) (fun wq hq => ⟨_, rfl, hq.ext, ⟨as5, cs5, Fs5, rfl, NewC.sel [1] hq rfl⟩⟩)
        · skip
          replace h := bf cc4 h
          have q5 := eqb_true.1 (nf cc4)
          refine cw_skip ?_
          refine ex_seq ?_
          refine cw_seq ?_
          refine cw_region ?_
          refine wl_u rfl (ow_y (yh_move rfl rfl) rfl rfl (kk_wl ?_))
          refine wl_u rfl (ow_y (yh_loadBA Tb (k := 0) rfl rfl rfl rfl rfl rfl) rfl rfl (kk_wl ?_))
          refine wl_u rfl (ow_litA Tb rfl rfl rfl rfl rfl rfl (by decide) rfl rfl (fun g45 => kk_chg (c' := owC eventsL [g45] [.slice (some ⟨g45, 0, none⟩) 1 1] ([x28.2.1] : List Event)) 0 rfl (fun w hA => own_eventsL ([x28.2.1] : List Event) hA rfl (by simp [maxLen])) rfl (kk_wl ?_)))
          obtain ⟨hll46, h⟩ := bd_appd h
          refine wl_u rfl (ow_appP Tb (i := 2) rfl rfl rfl rfl rfl (fun w hw => rdo (A := eventsL) 0 rfl hw) rfl rfl rfl rfl hll46 (by decide) rfl rfl (fun a46 c46 F46 => kk_wl ?_))
          refine wl_u rfl (ow_y (yh_assign rfl rfl) rfl rfl (kk_wl ?_))
          refine wl_nil ?_
          refine ex_seq ?_
          refine cw_region ?_
          refine wl_u rfl (ow_y (yh_move rfl rfl) rfl rfl (kk_wl ?_))
          refine wl_u rfl (ow_y (yh_arW rfl rfl rfl rfl) rfl rfl (kk_wl ?_))
          refine wl_u rfl (ow_y (yh_assign rfl rfl) rfl rfl (kk_wl ?_))
          refine wl_nil ?_
          refine ex_block_normal ?_
          exact ex_next [0] (hn5 (n5, (s5 ++ ([x28.2.1] : List Event)), w64 (x18 + 1), a46, c46, F46) (Nat.lt_succ_self _) h) ⟨rfl, rfl, rfl, trivial⟩ (by kernel_rfl)
  · skip
    replace h := bf cc1 h
    have q6 := ltb_false.1 cc1
    refine cw_exit ?_
    refine ex_then_exit ?_
    refine ex_then_exit ?_
    obtain rfl := Option.some.inj h
    have h := go_brk hk5
    refine ex_block_exit ?_
    refine ex_seq ?_
    refine cw_seq ?_
    refine cw_region ?_
    refine wl_u rfl (ow_y (yh_move rfl rfl) rfl rfl (kk_wl ?_))
    refine wl_u rfl (ow_y (yh_move rfl rfl) rfl rfl (kk_wl ?_))
    refine wl_u rfl (ow_y (yh_assign rfl rfl) rfl rfl (kk_wl ?_))
    refine wl_u rfl (ow_y (yh_assign rfl rfl) rfl rfl (kk_wl ?_))
    refine wl_u rfl (ow_y (yh_assign rfl rfl) rfl rfl (kk_wl ?_))
    refine wl_nil ?_
    refine ex_seq ?_
    refine cw_ret ?_
    obtain rfl := Option.some.inj h
    exact ex_r3 Tb rfl (.tmp rfl) (.tmp rfl) (.tmp rfl) (fun wq hq => ⟨_, rfl, hq.ext, ⟨as5, cs5, Fs5, rfl, NewC.sel [0] hq rfl⟩⟩)

def m_laws_eqEvent (N : Nat) (a : Event) (b : Event) : Option (Bool) := (bif !(eqb a.kind b.kind) then some false
 else (bif !(seq a.name b.name) then some false
 else some true))

set_option maxHeartbeats 4000000 in
theorem c_laws_eqEvent (N : Nat) (a : Event) (b : Event) (res : Bool) (h : m_laws_eqEvent N a b = some res) (w : World) : Ret Tryd.prog 34 [.agg #[.int .i64 a.kind, .string a.name], .agg #[.int .i64 b.kind, .string b.name]] w [] fun v w' => v = .bool res := by
  unfold m_laws_eqEvent at h
  refine ret_enter Tryd.func34 rfl Tryd.ntmps34 rfl (Hp.refl w _) ?_
  refine cw_seq ?_
  refine cw_region ?_
  refine wl_u rfl (ow_boxA rfl rfl rfl rfl (fun g2 => kk_wl ?_))
  refine wl_u rfl (ow_boxA rfl rfl rfl rfl (fun g3 => kk_wl ?_))
  refine wl_u rfl (ow_y (yh_assign rfl rfl) rfl rfl (kk_wl ?_))
  refine wl_nil ?_
  refine ex_seq ?_
  refine cw_seq ?_
  refine cw_seq ?_
  refine cw_region ?_
  refine wl_u rfl (ow_y (yh_field Tb rfl rfl rfl) rfl rfl (kk_wl ?_))
  refine wl_u rfl (ow_y (yh_loadB Tb (k := 1) rfl rfl rfl rfl rfl) rfl rfl (kk_wl ?_))
  refine wl_u rfl (ow_y (yh_field Tb rfl rfl rfl) rfl rfl (kk_wl ?_))
  refine wl_u rfl (ow_y (yh_loadB Tb (k := 0) rfl rfl rfl rfl rfl) rfl rfl (kk_wl ?_))
  refine wl_u rfl (ow_y (yh_cmpI rfl rfl rfl rfl) rfl rfl (kk_wl ?_))
  refine wl_nil ?_
  refine ex_seq ?_
  refine cw_split rfl (fun cc1 => ?_) (fun cc1 => ?_)
  · skip
    replace h := bt cc1 h
    have q1 := eqb_false.1 (nt cc1)
    refine cw_seq ?_
    refine cw_region ?_
    refine wl_u rfl (ow_y (yh_assign rfl rfl) rfl rfl (kk_wl ?_))
    refine wl_nil ?_
    refine ex_seq ?_
    refine cw_ret ?_
    refine ex_then_ret ?_
    obtain rfl := Option.some.inj h
    exact ex_r1 Tb rfl (.tmp rfl) (fun wq hq => ⟨_, rfl, hq.ext, rfl⟩)
  · skip
    replace h := bf cc1 h
    have q2 := eqb_true.1 (nf cc1)
    refine cw_skip ?_
    refine ex_seq ?_
    refine cw_seq ?_
    refine cw_seq ?_
    refine cw_region ?_
    refine wl_u rfl (ow_y (yh_field Tb rfl rfl rfl) rfl rfl (kk_wl ?_))
    refine wl_u rfl (ow_y (yh_loadB Tb (k := 1) rfl rfl rfl rfl rfl) rfl rfl (kk_wl ?_))
    refine wl_u rfl (ow_y (yh_field Tb rfl rfl rfl) rfl rfl (kk_wl ?_))
    refine wl_u rfl (ow_y (yh_loadB Tb (k := 0) rfl rfl rfl rfl rfl) rfl rfl (kk_wl ?_))
    refine wl_u rfl (ow_y (yh_cmpS rfl rfl rfl rfl) rfl rfl (kk_wl ?_))
    refine wl_nil ?_
    refine ex_seq ?_
    refine cw_split rfl (fun cc2 => ?_) (fun cc2 => ?_)
    · skip
      replace h := bt cc2 h
      refine cw_seq ?_
      refine cw_region ?_
      refine wl_u rfl (ow_y (yh_assign rfl rfl) rfl rfl (kk_wl ?_))
      refine wl_nil ?_
      refine ex_seq ?_
      refine cw_ret ?_
      refine ex_then_ret ?_
      obtain rfl := Option.some.inj h
      exact ex_r1 Tb rfl (.tmp rfl) (fun wq hq => ⟨_, rfl, hq.ext, rfl⟩)
    · skip
      replace h := bf cc2 h
      refine cw_skip ?_
      refine ex_seq ?_
      refine cw_seq ?_
      refine cw_region ?_
      refine wl_u rfl (ow_y (yh_assign rfl rfl) rfl rfl (kk_wl ?_))
      refine wl_nil ?_
      refine ex_seq ?_
      refine cw_ret ?_
      obtain rfl := Option.some.inj h
      exact ex_r1 Tb rfl (.tmp rfl) (fun wq hq => ⟨_, rfl, hq.ext, rfl⟩)

def m_laws_eqEventS_L8 (N : Nat) (a : List Event) (b : List Event) : Nat → Nat → Option (Ex (Nat) (Bool))
  | 0, _ => none
  | n + 1, s5 => (bif ltb ((s5 : Nat) : Int) ((a.length : Nat) : Int) then (a[s5]?).bind fun y19 => (b[s5]?).bind fun y23 => (m_laws_eqEvent N y19 y23).bind fun x25 => (bif !x25 then some (Ex.ret false)
 else m_laws_eqEventS_L8 N a b n (s5 + 1))
 else some (Ex.brk (s5)))

def m_laws_eqEventS (N : Nat) (a : List Event) (b : List Event) : Option (Bool) := (bif !(eqb ((a.length : Nat) : Int) ((b.length : Nat) : Int)) then some false
 else (m_laws_eqEventS_L8 N a b N 0).bind fun e8 => e8.go (fun r => r) fun b8 => some true)

set_option maxHeartbeats 4000000 in
theorem c_laws_eqEventS (N : Nat) (a : List Event) (b : List Event) (res : Bool) (h : m_laws_eqEventS N a b = some res) (w : World) {a_a a_b : Option Addr} {c_a c_b : Nat} (h_a : eventsL.rd w [] [.slice a_a a.length c_a] a) (h_b : eventsL.rd w [] [.slice a_b b.length c_b] b) : Ret Tryd.prog 16 [.slice a_a a.length c_a, .slice a_b b.length c_b] w [] fun v w' => v = .bool res := by
  have mh_a := rd_max h_a
  have mh_b := rd_max h_b
  unfold m_laws_eqEventS at h
  refine ret_enter Tryd.func16 rfl Tryd.ntmps16 rfl (Hp.refl w _) ?_
  refine cw_seq ?_
  refine cw_region ?_
  refine wl_u rfl (ow_y (yh_assign rfl rfl) rfl rfl (kk_wl ?_))
  refine wl_nil ?_
  refine ex_seq ?_
  refine cw_seq ?_
  refine cw_seq ?_
  refine cw_region ?_
  refine wl_u rfl (ow_y (yh_move rfl rfl) rfl rfl (kk_wl ?_))
  refine wl_u rfl (ow_y (yh_lenS Tb rfl rfl rfl rfl) rfl rfl (kk_wl ?_))
  refine wl_u rfl (ow_y (yh_move rfl rfl) rfl rfl (kk_wl ?_))
  refine wl_u rfl (ow_y (yh_lenS Tb rfl rfl rfl rfl) rfl rfl (kk_wl ?_))
  refine wl_u rfl (ow_y (yh_cmpI rfl rfl rfl rfl) rfl rfl (kk_wl ?_))
  refine wl_nil ?_
  refine ex_seq ?_
  refine cw_split rfl (fun cc1 => ?_) (fun cc1 => ?_)
  · skip
    replace h := bt cc1 h
    have q1 := eqb_false.1 (nt cc1)
    refine cw_seq ?_
    refine cw_region ?_
    refine wl_u rfl (ow_y (yh_assign rfl rfl) rfl rfl (kk_wl ?_))
    refine wl_nil ?_
    refine ex_seq ?_
    refine cw_ret ?_
    refine ex_then_ret ?_
    obtain rfl := Option.some.inj h
    exact ex_r1 Tb rfl (.tmp rfl) (fun wq hq => ⟨_, rfl, hq.ext, rfl⟩)
  · skip
    replace h := bf cc1 h
    have q2 := eqb_true.1 (nf cc1)
    refine cw_skip ?_
    refine ex_seq ?_
    refine cw_seq ?_
    refine cw_seq ?_
    refine cw_region ?_
    refine wl_u rfl (ow_y (yh_assign rfl rfl) rfl rfl (kk_wl ?_))
    refine wl_nil ?_
    refine ex_seq ?_
    refine cw_block ?_
    obtain ⟨e8, he8, hk8⟩ := bd h
    clear h
    refine cw_loopG (σ := Nat × Nat) (fun s => m_laws_eqEventS_L8 N a b s.1 s.2 = some e8) (fun s => [(0, .slice a_a a.length c_a), (1, .slice a_b b.length c_b), (5, .int .i64 ((s.2 : Nat) : Int))]) (fun s => []) (fun s => s.1) (N, 0) [] he8 ⟨rfl, rfl, rfl, trivial⟩ rfl (fun KL s he8 hn8 => ?_)
    obtain ⟨n8, s5⟩ := s
    simp only at he8 hn8 ⊢
    rcases n8 with _ | n8
    · exact nosome he8
    have h := he8; rw [m_laws_eqEventS_L8] at h
    refine cw_seq ?_
    refine cw_seq ?_
    refine cw_region ?_
    refine wl_u rfl (ow_y (yh_move rfl rfl) rfl rfl (kk_wl ?_))
    refine wl_u rfl (ow_y (yh_move rfl rfl) rfl rfl (kk_wl ?_))
    refine wl_u rfl (ow_y (yh_lenS Tb rfl rfl rfl rfl) rfl rfl (kk_wl ?_))
    refine wl_u rfl (ow_y (yh_cmpI rfl rfl rfl rfl) rfl rfl (kk_wl ?_))
    refine wl_nil ?_
    refine ex_seq ?_
    refine cw_split rfl (fun cc2 => ?_) (fun cc2 => ?_)
    · skip
      replace h := bt cc2 h
      have q3 := ltb_true.1 cc2
      refine cw_skip ?_
      refine ex_seq ?_
      refine cw_seq ?_
      refine cw_block ?_
      refine cw_seq ?_
      refine cw_dr [0, 1, 2, 3, 4, 5, 6, 7, 9] [] [] (by kernel_rfl) ?_
      refine wd_take (i := 0) [] rfl rfl rfl rfl rfl (by kernel_rfl) (by kernel_rfl) (fun _ _ _ _ h => h) (yh_move rfl rfl) ?_
      refine wd_take (i := 1) [] rfl rfl rfl rfl rfl (by kernel_rfl) (by kernel_rfl) (fun _ _ _ _ h => h) (yh_move rfl rfl) ?_
      obtain ⟨y19, hy19, h⟩ := bd h
      obtain ⟨b19, o19, ha19⟩ := sl_addr h_a hy19
      subst ha19
      have hc19 := get_event h_a hy19
      refine wd_take (i := 2) [] rfl rfl rfl rfl rfl (by kernel_rfl) (by kernel_rfl) (fun _ _ _ _ h => h) (yh_idx Tb (k := s5) rfl rfl rfl rfl (get_lt hy19) rfl rfl) ?_
      refine wd_take (i := 3) [] rfl rfl rfl rfl rfl (by kernel_rfl) (by kernel_rfl) (fun _ _ _ _ h => h) (yh_loadAN Tb rfl rfl rfl rfl hc19 rfl) ?_
      refine wd_take (i := 4) [] rfl rfl rfl rfl rfl (by kernel_rfl) (by kernel_rfl) (fun _ _ _ _ h => h) (yh_move rfl rfl) ?_
      refine wd_take (i := 5) [] rfl rfl rfl rfl rfl (by kernel_rfl) (by kernel_rfl) (fun _ _ _ _ h => h) (yh_move rfl rfl) ?_
      obtain ⟨y23, hy23, h⟩ := bd h
      obtain ⟨b23, o23, ha23⟩ := sl_addr h_b hy23
      subst ha23
      have hc23 := get_event h_b hy23
      refine wd_take (i := 6) [] rfl rfl rfl rfl rfl (by kernel_rfl) (by kernel_rfl) (fun _ _ _ _ h => h) (yh_idx Tb (k := s5) rfl rfl rfl rfl (get_lt hy23) rfl rfl) ?_
      refine wd_take (i := 7) [] rfl rfl rfl rfl rfl (by kernel_rfl) (by kernel_rfl) (fun _ _ _ _ h => h) (yh_loadAN Tb rfl rfl rfl rfl hc23 rfl) ?_
      obtain ⟨x25, hx25, h⟩ := bd h
      refine wd_one 8 rfl rfl (by kernel_rfl) (ow_cV rfl hb34 rfl (fun w hw => c_laws_eqEvent N _ _ _ hx25 w) rfl rfl (kk_wd [] (by kernel_rfl) ?_))
      refine wd_take (i := 9) [] rfl rfl rfl rfl rfl (by kernel_rfl) (by kernel_rfl) (fun _ _ _ _ h => h) (yh_not rfl rfl) ?_
      refine wd_done (by kernel_rfl) ?_
      refine ex_seq ?_
      refine cw_split rfl (fun cc3 => ?_) (fun cc3 => ?_)
      · skip
        replace h := bt cc3 h
        refine cw_seq ?_
        refine cw_region ?_
        refine wl_u rfl (ow_y (yh_assign rfl rfl) rfl rfl (kk_wl ?_))
        refine wl_nil ?_
        refine ex_seq ?_
        refine cw_ret ?_
        refine ex_block_ret ?_
        refine ex_then_ret ?_
        refine ex_then_ret ?_
        refine ex_block_ret ?_
        refine ex_then_ret ?_
        obtain rfl := Option.some.inj h
        obtain rfl := go_ret hk8
        exact ex_r1 Tb rfl (.tmp rfl) (fun wq hq => ⟨_, rfl, hq.ext, rfl⟩)
      · skip
        replace h := bf cc3 h
        refine cw_skip ?_
        refine ex_block_normal ?_
        refine ex_seq ?_
        refine cw_region ?_
        refine wl_u rfl (ow_y (yh_move rfl rfl) rfl rfl (kk_wl ?_))
        refine wl_u rfl (ow_y (yh_arI rfl rfl rfl rfl (by omega)) rfl rfl (kk_wl ?_))
        refine wl_u rfl (ow_y (yh_assign rfl rfl) rfl rfl (kk_wl ?_))
        refine wl_nil ?_
        exact ex_next [] (hn8 (n8, s5 + 1) (Nat.lt_succ_self _) h) ⟨rfl, rfl, rfl, trivial⟩ (by kernel_rfl)
    · skip
      replace h := bf cc2 h
      have q4 := ltb_false.1 cc2
      refine cw_exit ?_
      refine ex_then_exit ?_
      refine ex_then_exit ?_
      obtain rfl := Option.some.inj h
      have h := go_brk hk8
      refine ex_block_exit ?_
      refine ex_seq ?_
      refine cw_seq ?_
      refine cw_region ?_
      refine wl_u rfl (ow_y (yh_assign rfl rfl) rfl rfl (kk_wl ?_))
      refine wl_nil ?_
      refine ex_seq ?_
      refine cw_ret ?_
      obtain rfl := Option.some.inj h
      exact ex_r1 Tb rfl (.tmp rfl) (fun wq hq => ⟨_, rfl, hq.ext, rfl⟩)

def m_laws_markText_L7 (N : Nat) : Nat → Int → Str → Option (Ex (Int × Str) (Str))
  | 0, _, _ => none
  | n + 1, s0, s3 => (bif ltb 0 s0 then (cat (bstr [u8w (w64 (48 + (Int.tmod s0 10)))]) s3).bind fun t15_ => m_laws_markText_L7 N n (w64 (Int.tdiv s0 10)) t15_
 else some (Ex.brk (s0, s3)))

def m_laws_markText (N : Nat) (k : Int) : Option (Str) := (bif leb k 0 then some (⟨#[109, 48]⟩ : Str)
 else (m_laws_markText_L7 N N k (⟨#[]⟩ : Str)).bind fun e7 => e7.go (fun r => r) fun b7 => (cat (⟨#[109]⟩ : Str) b7.2).bind fun t19_ => some t19_)

set_option maxHeartbeats 4000000 in
theorem c_laws_markText (N : Nat) (k : Int) (res : Str) (h : m_laws_markText N k = some res) (w : World) : Ret Tryd.prog 35 [.int .i64 k] w [] fun v w' => v = .string res := by
  unfold m_laws_markText at h
  refine ret_enter Tryd.func35 rfl Tryd.ntmps35 rfl (Hp.refl w _) ?_
  refine cw_seq ?_
  refine cw_region ?_
  refine wl_u rfl (ow_y (yh_assign rfl rfl) rfl rfl (kk_wl ?_))
  refine wl_nil ?_
  refine ex_seq ?_
  refine cw_seq ?_
  refine cw_seq ?_
  refine cw_region ?_
  refine wl_u rfl (ow_y (yh_move rfl rfl) rfl rfl (kk_wl ?_))
  refine wl_u rfl (ow_y (yh_cmpI rfl rfl rfl rfl) rfl rfl (kk_wl ?_))
  refine wl_nil ?_
  refine ex_seq ?_
  refine cw_split rfl (fun cc1 => ?_) (fun cc1 => ?_)
  · skip
    replace h := bt cc1 h
    have q1 := leb_true.1 cc1
    refine cw_seq ?_
    refine cw_region ?_
    refine wl_u rfl (ow_y (yh_assign rfl rfl) rfl rfl (kk_wl ?_))
    refine wl_nil ?_
    refine ex_seq ?_
    refine cw_ret ?_
    refine ex_then_ret ?_
    obtain rfl := Option.some.inj h
    exact ex_r1 Tb rfl (.tmp rfl) (fun wq hq => ⟨_, rfl, hq.ext, rfl⟩)
  · skip
    replace h := bf cc1 h
    have q2 := leb_false.1 cc1
    refine cw_skip ?_
    refine ex_seq ?_
    refine cw_seq ?_
    refine cw_region ?_
    refine wl_u rfl (ow_y (yh_assign rfl rfl) rfl rfl (kk_wl ?_))
    refine wl_nil ?_
    refine ex_seq ?_
    refine cw_seq ?_
    refine cw_block ?_
    obtain ⟨e7, he7, hk7⟩ := bd h
    clear h
    refine cw_loopG (σ := Nat × Int × Str) (fun s => m_laws_markText_L7 N s.1 s.2.1 s.2.2 = some e7) (fun s => [(0, .int .i64 s.2.1), (3, .string s.2.2)]) (fun s => []) (fun s => s.1) (N, k, (⟨#[]⟩ : Str)) [] he7 ⟨rfl, rfl, trivial⟩ rfl (fun KL s he7 hn7 => ?_)
    obtain ⟨n7, s0, s3⟩ := s
    simp only at he7 hn7 ⊢
    rcases n7 with _ | n7
    · exact nosome he7
    have h := he7; rw [m_laws_markText_L7] at h
    refine cw_seq ?_
    refine cw_seq ?_
    refine cw_region ?_
    refine wl_u rfl (ow_y (yh_move rfl rfl) rfl rfl (kk_wl ?_))
    refine wl_u rfl (ow_y (yh_cmpI rfl rfl rfl rfl) rfl rfl (kk_wl ?_))
    refine wl_nil ?_
    refine ex_seq ?_
    refine cw_split rfl (fun cc2 => ?_) (fun cc2 => ?_)
    · skip
      replace h := bt cc2 h
      have q3 := ltb_true.1 cc2
      refine cw_skip ?_
      refine ex_seq ?_
      refine cw_block ?_
      refine cw_seq ?_
      refine cw_region ?_
      refine wl_u rfl (ow_y (yh_move rfl rfl) rfl rfl (kk_wl ?_))
      refine wl_u rfl (ow_y (yh_remT rfl rfl rfl (by decide)) rfl rfl (kk_wl ?_))
      refine wl_u rfl (ow_y (yh_arW rfl rfl rfl rfl) rfl rfl (kk_wl ?_))
      refine wl_u rfl (ow_y (yh_convU rfl rfl (by kernel_rfl)) rfl rfl (kk_wl ?_))
      refine wl_u rfl (ow_lit1 Tb rfl rfl rfl rfl rfl rfl rfl rfl rfl rfl (fun g12 => kk_wl ?_))
      refine wl_u rfl (ow_y (yh_bstr (ns := [u8w (w64 (48 + (Int.tmod s0 10)))]) (k := 0) rfl rfl rfl rfl (by kernel_rfl)) rfl rfl (kk_wl ?_))
      refine wl_u rfl (ow_y (yh_move rfl rfl) rfl rfl (kk_wl ?_))
      obtain ⟨t15_, zt15_, h⟩ := bd h
      refine wl_u rfl (ow_y (yh_addS zt15_ rfl rfl rfl) rfl rfl (kk_wl ?_))
      refine wl_u rfl (ow_y (yh_assign rfl rfl) rfl rfl (kk_wl ?_))
      refine wl_nil ?_
      refine ex_seq ?_
      refine cw_region ?_
      refine wl_u rfl (ow_y (yh_move rfl rfl) rfl rfl (kk_wl ?_))
      refine wl_u rfl (ow_y (yh_quoT rfl rfl rfl (by decide)) rfl rfl (kk_wl ?_))
      refine wl_u rfl (ow_y (yh_assign rfl rfl) rfl rfl (kk_wl ?_))
      refine wl_nil ?_
      refine ex_block_normal ?_
      exact ex_next [] (hn7 (n7, w64 (Int.tdiv s0 10), t15_) (Nat.lt_succ_self _) h) ⟨rfl, rfl, trivial⟩ (by kernel_rfl)
    · skip
      replace h := bf cc2 h
      have q4 := ltb_false.1 cc2
      refine cw_exit ?_
      refine ex_then_exit ?_
      refine ex_then_exit ?_
      obtain rfl := Option.some.inj h
      have h := go_brk hk7
      refine ex_block_exit ?_
      refine ex_seq ?_
      refine cw_seq ?_
      refine cw_region ?_
      refine wl_u rfl (ow_y (yh_move rfl rfl) rfl rfl (kk_wl ?_))
      obtain ⟨t19_, zt19_, h⟩ := bd h
      refine wl_u rfl (ow_y (yh_addS zt19_ rfl rfl rfl) rfl rfl (kk_wl ?_))
      refine wl_u rfl (ow_y (yh_assign rfl rfl) rfl rfl (kk_wl ?_))
      refine wl_nil ?_
      refine ex_seq ?_
      refine cw_ret ?_
      obtain rfl := Option.some.inj h
      exact ex_r1 Tb rfl (.tmp rfl) (fun wq hq => ⟨_, rfl, hq.ext, rfl⟩)

def m_laws_markEventS_L4 (N : Nat) (a : List Event) : Nat → (List Event) → Int → Nat → Option (Ex (List Event × Int × Nat) ((Int) × (List Event)))
  | 0, _, _, _ => none
  | n + 1, s0, s1, s5 => (bif ltb ((s5 : Nat) : Int) ((a.length : Nat) : Int) then (s0[s5]?).bind fun y15 => (m_laws_markText N (w64 (s1 + 1))).bind fun x22 => ((s0.set s5 (Event.mk s1 y15.name))[s5]?).bind fun y23 => m_laws_markEventS_L4 N a n ((s0.set s5 (Event.mk s1 y15.name)).set s5 (Event.mk y23.kind x22)) (w64 ((w64 (s1 + 1)) + 1)) (s5 + 1)
 else some (Ex.brk (s0, s1, s5)))

def m_laws_markEventS (N : Nat) (a : List Event) (k : Int) : Option ((Int) × (List Event)) := (m_laws_markEventS_L4 N a N a k 0).bind fun e4 => e4.go (fun r => r) fun b4 => some (b4.2.1, b4.1)

set_option maxHeartbeats 4000000 in
theorem c_laws_markEventS (N : Nat) (a : List Event) (k : Int) (res : (Int) × (List Event)) (h : m_laws_markEventS N a k = some res) (w : World) {a_a : Option Addr} {c_a : Nat} {F_a : List Nat} (hr : (owC eventsL F_a [.slice a_a a.length c_a] a).A w) (hnd : F_a.Nodup) : Ret Tryd.prog 17 [.slice a_a a.length c_a, .int .i64 k] w F_a fun v w' => ∃ F0, v = .int .i64 res.1 ∧ NewM w w' F_a [owC eventsL F0 [.slice a_a a.length c_a] res.2] := by
  unfold m_laws_markEventS at h
  refine ret_enter Tryd.func17 rfl Tryd.ntmps17 rfl (hp_one hr hnd) ?_
  refine cw_seq ?_
  refine cw_region ?_
  refine wl_u rfl (ow_y (yh_assign rfl rfl) rfl rfl (kk_wl ?_))
  refine wl_nil ?_
  refine ex_seq ?_
  refine cw_seq ?_
  refine cw_seq ?_
  refine cw_region ?_
  refine wl_u rfl (ow_y (yh_assign rfl rfl) rfl rfl (kk_wl ?_))
  refine wl_nil ?_
  refine ex_seq ?_
  refine cw_block ?_
  obtain ⟨e4, he4, hk4⟩ := bd h
  clear h
  refine cw_loopG (σ := Nat × (List Event) × Int × Nat × (List Nat)) (fun s => m_laws_markEventS_L4 N a s.1 s.2.1 s.2.2.1 s.2.2.2.1 = some e4) (fun s => [(0, .slice a_a a.length c_a), (1, .int .i64 s.2.2.1), (5, .int .i64 ((s.2.2.2.1 : Nat) : Int))]) (fun s => [owC eventsL s.2.2.2.2 [.slice a_a a.length c_a] s.2.1]) (fun s => s.1) (N, a, k, 0, F_a) [0] he4 ⟨rfl, rfl, rfl, trivial⟩ rfl (fun KL s he4 hn4 => ?_)
  obtain ⟨n4, s0, s1, s5, Fs0⟩ := s
  simp only at he4 hn4 ⊢
  rcases n4 with _ | n4
  · exact nosome he4
  have h := he4; rw [m_laws_markEventS_L4] at h
  refine cw_seq ?_
  refine cw_seq ?_
  refine cw_region ?_
  refine wl_u rfl (ow_y (yh_move rfl rfl) rfl rfl (kk_wl ?_))
  refine wl_u rfl (ow_y (yh_move rfl rfl) rfl rfl (kk_wl ?_))
  refine wl_know (a.length ≤ 9223372036854775807) (fun w hw => own_max 0 rfl hw) (fun mo8 => ?_)
  refine wl_u rfl (ow_y (yh_lenS Tb rfl rfl rfl rfl) rfl rfl (kk_wl ?_))
  refine wl_u rfl (ow_y (yh_cmpI rfl rfl rfl rfl) rfl rfl (kk_wl ?_))
  refine wl_nil ?_
  refine ex_seq ?_
  refine cw_split rfl (fun cc1 => ?_) (fun cc1 => ?_)
  · skip
    replace h := bt cc1 h
    have q1 := ltb_true.1 cc1
    refine cw_skip ?_
    refine ex_seq ?_
    refine cw_seq ?_
    refine cw_block ?_
    refine cw_seq ?_
    refine cw_region ?_
    refine wl_u rfl (ow_y (yh_move rfl rfl) rfl rfl (kk_wl ?_))
    refine wl_u rfl (ow_y (yh_move rfl rfl) rfl rfl (kk_wl ?_))
    refine wl_u rfl (ow_y (yh_move rfl rfl) rfl rfl (kk_wl ?_))
    obtain ⟨y15, hy15, h⟩ := bd h
    refine wl_ex (fun g => a_a = some ⟨g, 0, none⟩) (fun w hw => by exact own_addrK 0 rfl hy15 hw) (fun g15 hg15 => ?_)
    subst hg15
    refine wl_know (a.length = s0.length) (fun w hw => own_lenK 0 rfl hw) (fun hn15 => ?_)
    refine wl_u rfl (ow_y (yh_idx Tb (k := s5) rfl rfl rfl rfl (Nat.lt_of_lt_of_eq (get_lt hy15) hn15.symm) rfl rfl) rfl rfl (kk_wl ?_))
    refine wl_u rfl (ow_y (yh_field Tb rfl rfl rfl) rfl rfl (kk_wl ?_))
    refine wl_u rfl (ow_storeF2 Tb 0 0 (u := (Event.mk s1 y15.name)) rfl rfl rfl rfl rfl rfl (by decide) hy15 rfl rfl (kk_wl ?_))
    refine wl_nil ?_
    refine ex_seq ?_
    refine cw_seq ?_
    refine cw_region ?_
    refine wl_u rfl (ow_y (yh_move rfl rfl) rfl rfl (kk_wl ?_))
    refine wl_u rfl (ow_y (yh_arW rfl rfl rfl rfl) rfl rfl (kk_wl ?_))
    refine wl_u rfl (ow_y (yh_assign rfl rfl) rfl rfl (kk_wl ?_))
    refine wl_nil ?_
    refine ex_seq ?_
    refine cw_seq ?_
    refine cw_region ?_
    refine wl_u rfl (ow_y (yh_move rfl rfl) rfl rfl (kk_wl ?_))
    refine wl_u rfl (ow_y (yh_move rfl rfl) rfl rfl (kk_wl ?_))
    refine wl_u rfl (ow_y (yh_move rfl rfl) rfl rfl (kk_wl ?_))
    obtain ⟨x22, hx22, h⟩ := bd h
    refine wl_u rfl (ow_cV rfl hb35 rfl (fun w hw => c_laws_markText N _ _ hx22 w) rfl rfl (kk_wl ?_))
    obtain ⟨y23, hy23, h⟩ := bd h
    refine wl_know (a.length = (s0.set s5 (Event.mk s1 y15.name)).length) (fun w hw => own_lenK 0 rfl hw) (fun hn23 => ?_)
    refine wl_u rfl (ow_y (yh_idx Tb (k := s5) rfl rfl rfl rfl (Nat.lt_of_lt_of_eq (get_lt hy23) hn23.symm) rfl rfl) rfl rfl (kk_wl ?_))
    refine wl_u rfl (ow_y (yh_field Tb rfl rfl rfl) rfl rfl (kk_wl ?_))
    refine wl_u rfl (ow_storeF2 Tb 0 1 (u := (Event.mk y23.kind x22)) rfl rfl rfl rfl rfl rfl (by decide) hy23 rfl rfl (kk_wl ?_))
    refine wl_nil ?_
    refine ex_seq ?_
    refine cw_region ?_
    refine wl_u rfl (ow_y (yh_move rfl rfl) rfl rfl (kk_wl ?_))
    refine wl_u rfl (ow_y (yh_arW rfl rfl rfl rfl) rfl rfl (kk_wl ?_))
    refine wl_u rfl (ow_y (yh_assign rfl rfl) rfl rfl (kk_wl ?_))
    refine wl_nil ?_
    refine ex_block_normal ?_
    refine ex_seq ?_
    refine cw_region ?_
    refine wl_u rfl (ow_y (yh_move rfl rfl) rfl rfl (kk_wl ?_))
    refine wl_u rfl (ow_y (yh_arI rfl rfl rfl rfl (by omega)) rfl rfl (kk_wl ?_))
    refine wl_u rfl (ow_y (yh_assign rfl rfl) rfl rfl (kk_wl ?_))
    refine wl_nil ?_
    exact ex_next [0] (hn4 (n4, ((s0.set s5 (Event.mk s1 y15.name)).set s5 (Event.mk y23.kind x22)), w64 ((w64 (s1 + 1)) + 1), s5 + 1, Fs0) (Nat.lt_succ_self _) h) ⟨rfl, rfl, rfl, trivial⟩ (by kernel_rfl)
  · skip
    replace h := bf cc1 h
    have q2 := ltb_false.1 cc1
    refine cw_exit ?_
    refine ex_then_exit ?_
    refine ex_then_exit ?_
    obtain rfl := Option.some.inj h
    have h := go_brk hk4
    refine ex_block_exit ?_
    refine ex_seq ?_
    refine cw_seq ?_
    refine cw_region ?_
    refine wl_u rfl (ow_y (yh_move rfl rfl) rfl rfl (kk_wl ?_))
    refine wl_u rfl (ow_y (yh_assign rfl rfl) rfl rfl (kk_wl ?_))
    refine wl_nil ?_
    refine ex_seq ?_
    refine cw_ret ?_
    obtain rfl := Option.some.inj h
    exact ex_r1 Tb rfl (.tmp rfl) (fun wq hq => ⟨_, rfl, hq.ext, ⟨Fs0, rfl, NewM.sel [0] hq rfl⟩⟩)

def m_laws_heldEventS_L5 (N : Nat) (a : List Event) : Nat → Int → Nat → Option (Ex (Int × Nat) (Int))
  | 0, _, _ => none
  | n + 1, s1, s5 => (bif ltb ((s5 : Nat) : Int) ((a.length : Nat) : Int) then (a[s5]?).bind fun y14 => (bif !(eqb y14.kind s1) then some (Ex.ret (-1))
 else (m_laws_markText N (w64 (s1 + 1))).bind fun x27 => (bif !(seq y14.name x27) then some (Ex.ret (-1))
 else m_laws_heldEventS_L5 N a n (w64 ((w64 (s1 + 1)) + 1)) (s5 + 1)))
 else some (Ex.brk (s1, s5)))

def m_laws_heldEventS (N : Nat) (a : List Event) (k : Int) : Option (Int) := (m_laws_heldEventS_L5 N a N k 0).bind fun e5 => e5.go (fun r => r) fun b5 => some b5.1

set_option maxHeartbeats 4000000 in
theorem c_laws_heldEventS (N : Nat) (a : List Event) (k : Int) (res : Int) (h : m_laws_heldEventS N a k = some res) (w : World) {a_a : Option Addr} {c_a : Nat} (h_a : eventsL.rd w [] [.slice a_a a.length c_a] a) : Ret Tryd.prog 18 [.slice a_a a.length c_a, .int .i64 k] w [] fun v w' => v = .int .i64 res := by
  have mh_a := rd_max h_a
  unfold m_laws_heldEventS at h
  refine ret_enter Tryd.func18 rfl Tryd.ntmps18 rfl (Hp.refl w _) ?_
  refine cw_seq ?_
  refine cw_region ?_
  refine wl_u rfl (ow_y (yh_assign rfl rfl) rfl rfl (kk_wl ?_))
  refine wl_nil ?_
  refine ex_seq ?_
  refine cw_seq ?_
  refine cw_seq ?_
  refine cw_region ?_
  refine wl_u rfl (ow_y (yh_assign rfl rfl) rfl rfl (kk_wl ?_))
  refine wl_nil ?_
  refine ex_seq ?_
  refine cw_block ?_
  obtain ⟨e5, he5, hk5⟩ := bd h
  clear h
  refine cw_loopG (σ := Nat × Int × Nat) (fun s => m_laws_heldEventS_L5 N a s.1 s.2.1 s.2.2 = some e5) (fun s => [(0, .slice a_a a.length c_a), (1, .int .i64 s.2.1), (5, .int .i64 ((s.2.2 : Nat) : Int))]) (fun s => []) (fun s => s.1) (N, k, 0) [] he5 ⟨rfl, rfl, rfl, trivial⟩ rfl (fun KL s he5 hn5 => ?_)
  obtain ⟨n5, s1, s5⟩ := s
  simp only at he5 hn5 ⊢
  rcases n5 with _ | n5
  · exact nosome he5
  have h := he5; rw [m_laws_heldEventS_L5] at h
  refine cw_seq ?_
  refine cw_seq ?_
  refine cw_region ?_
  refine wl_u rfl (ow_y (yh_move rfl rfl) rfl rfl (kk_wl ?_))
  refine wl_u rfl (ow_y (yh_move rfl rfl) rfl rfl (kk_wl ?_))
  refine wl_u rfl (ow_y (yh_lenS Tb rfl rfl rfl rfl) rfl rfl (kk_wl ?_))
  refine wl_u rfl (ow_y (yh_cmpI rfl rfl rfl rfl) rfl rfl (kk_wl ?_))
  refine wl_nil ?_
  refine ex_seq ?_
  refine cw_split rfl (fun cc1 => ?_) (fun cc1 => ?_)
  · skip
    replace h := bt cc1 h
    have q1 := ltb_true.1 cc1
    refine cw_skip ?_
    refine ex_seq ?_
    refine cw_seq ?_
    refine cw_block ?_
    refine cw_seq ?_
    refine cw_seq ?_
    refine cw_region ?_
    refine wl_u rfl (ow_y (yh_move rfl rfl) rfl rfl (kk_wl ?_))
    refine wl_u rfl (ow_y (yh_move rfl rfl) rfl rfl (kk_wl ?_))
    obtain ⟨y14, hy14, h⟩ := bd h
    obtain ⟨b14, o14, ha14⟩ := sl_addr h_a hy14
    subst ha14
    have hc14 := get_event h_a hy14
    refine wl_u rfl (ow_y (yh_idx Tb (k := s5) rfl rfl rfl rfl (get_lt hy14) rfl rfl) rfl rfl (kk_wl ?_))
    refine wl_u rfl (ow_y (yh_field Tb rfl rfl rfl) rfl rfl (kk_wl ?_))
    refine wl_u rfl (ow_y (yh_loadAF Tb (j := 0) rfl rfl rfl hc14 rfl) rfl rfl (kk_wl ?_))
    refine wl_u rfl (ow_y (yh_move rfl rfl) rfl rfl (kk_wl ?_))
    refine wl_u rfl (ow_y (yh_cmpI rfl rfl rfl rfl) rfl rfl (kk_wl ?_))
    refine wl_nil ?_
    refine ex_seq ?_
    refine cw_split rfl (fun cc2 => ?_) (fun cc2 => ?_)
    · skip
      replace h := bt cc2 h
      have q2 := eqb_false.1 (nt cc2)
      refine cw_seq ?_
      refine cw_region ?_
      refine wl_u rfl (ow_y (yh_assign rfl rfl) rfl rfl (kk_wl ?_))
      refine wl_nil ?_
      refine ex_seq ?_
      refine cw_ret ?_
      refine ex_then_ret ?_
      refine ex_block_ret ?_
      refine ex_then_ret ?_
      refine ex_then_ret ?_
      refine ex_block_ret ?_
      refine ex_then_ret ?_
      obtain rfl := Option.some.inj h
      obtain rfl := go_ret hk5
      exact ex_r1 Tb rfl (.tmp rfl) (fun wq hq => ⟨_, rfl, hq.ext, rfl⟩)
    · skip
      replace h := bf cc2 h
      have q3 := eqb_true.1 (nf cc2)
      refine cw_skip ?_
      refine ex_seq ?_
      refine cw_seq ?_
      refine cw_region ?_
      refine wl_u rfl (ow_y (yh_move rfl rfl) rfl rfl (kk_wl ?_))
      refine wl_u rfl (ow_y (yh_arW rfl rfl rfl rfl) rfl rfl (kk_wl ?_))
      refine wl_u rfl (ow_y (yh_assign rfl rfl) rfl rfl (kk_wl ?_))
      refine wl_nil ?_
      refine ex_seq ?_
      refine cw_seq ?_
      refine cw_seq ?_
      refine cw_dr [0, 1, 2, 3, 4, 5, 7] [] [] (by kernel_rfl) ?_
      refine wd_take (i := 0) [] rfl rfl rfl rfl rfl (by kernel_rfl) (by kernel_rfl) (fun _ _ _ _ h => h) (yh_move rfl rfl) ?_
      refine wd_take (i := 1) [] rfl rfl rfl rfl rfl (by kernel_rfl) (by kernel_rfl) (fun _ _ _ _ h => h) (yh_move rfl rfl) ?_
      refine wd_take (i := 2) [] rfl rfl rfl rfl rfl (by kernel_rfl) (by kernel_rfl) (fun _ _ _ _ h => h) (yh_idx Tb (k := s5) rfl rfl rfl rfl (get_lt hy14) rfl rfl) ?_
      refine wd_take (i := 3) [] rfl rfl rfl rfl rfl (by kernel_rfl) (by kernel_rfl) (fun _ _ _ _ h => h) (yh_field Tb rfl rfl rfl) ?_
      refine wd_take (i := 4) [] rfl rfl rfl rfl rfl (by kernel_rfl) (by kernel_rfl) (fun _ _ _ _ h => h) (yh_loadAF Tb (j := 1) rfl rfl rfl hc14 rfl) ?_
      refine wd_take (i := 5) [] rfl rfl rfl rfl rfl (by kernel_rfl) (by kernel_rfl) (fun _ _ _ _ h => h) (yh_move rfl rfl) ?_
      obtain ⟨x27, hx27, h⟩ := bd h
      refine wd_one 6 rfl rfl (by kernel_rfl) (ow_cV rfl hb35 rfl (fun w hw => c_laws_markText N _ _ hx27 w) rfl rfl (kk_wd [] (by kernel_rfl) ?_))
      refine wd_take (i := 7) [] rfl rfl rfl rfl rfl (by kernel_rfl) (by kernel_rfl) (fun _ _ _ _ h => h) (yh_cmpS rfl rfl rfl rfl) ?_
      refine wd_done (by kernel_rfl) ?_
      refine ex_seq ?_
      refine cw_split rfl (fun cc3 => ?_) (fun cc3 => ?_)
      · skip
        replace h := bt cc3 h
        refine cw_seq ?_
        refine cw_region ?_
        refine wl_u rfl (ow_y (yh_assign rfl rfl) rfl rfl (kk_wl ?_))
        refine wl_nil ?_
        refine ex_seq ?_
        refine cw_ret ?_
        refine ex_then_ret ?_
        refine ex_block_ret ?_
        refine ex_then_ret ?_
        refine ex_then_ret ?_
        refine ex_block_ret ?_
        refine ex_then_ret ?_
        obtain rfl := Option.some.inj h
        obtain rfl := go_ret hk5
        exact ex_r1 Tb rfl (.tmp rfl) (fun wq hq => ⟨_, rfl, hq.ext, rfl⟩)
      · skip
        replace h := bf cc3 h
        refine cw_skip ?_
        refine ex_seq ?_
        refine cw_region ?_
        refine wl_u rfl (ow_y (yh_move rfl rfl) rfl rfl (kk_wl ?_))
        refine wl_u rfl (ow_y (yh_arW rfl rfl rfl rfl) rfl rfl (kk_wl ?_))
        refine wl_u rfl (ow_y (yh_assign rfl rfl) rfl rfl (kk_wl ?_))
        refine wl_nil ?_
        refine ex_block_normal ?_
        refine ex_seq ?_
        refine cw_region ?_
        refine wl_u rfl (ow_y (yh_move rfl rfl) rfl rfl (kk_wl ?_))
        refine wl_u rfl (ow_y (yh_arI rfl rfl rfl rfl (by omega)) rfl rfl (kk_wl ?_))
        refine wl_u rfl (ow_y (yh_assign rfl rfl) rfl rfl (kk_wl ?_))
        refine wl_nil ?_
        exact ex_next [] (hn5 (n5, w64 ((w64 (s1 + 1)) + 1), s5 + 1) (Nat.lt_succ_self _) h) ⟨rfl, rfl, rfl, trivial⟩ (by kernel_rfl)
  · skip
    replace h := bf cc1 h
    have q4 := ltb_false.1 cc1
    refine cw_exit ?_
    refine ex_then_exit ?_
    refine ex_then_exit ?_
    obtain rfl := Option.some.inj h
    have h := go_brk hk5
    refine ex_block_exit ?_
    refine ex_seq ?_
    refine cw_seq ?_
    refine cw_region ?_
    refine wl_u rfl (ow_y (yh_move rfl rfl) rfl rfl (kk_wl ?_))
    refine wl_u rfl (ow_y (yh_assign rfl rfl) rfl rfl (kk_wl ?_))
    refine wl_nil ?_
    refine ex_seq ?_
    refine cw_ret ?_
    obtain rfl := Option.some.inj h
    exact ex_r1 Tb rfl (.tmp rfl) (fun wq hq => ⟨_, rfl, hq.ext, rfl⟩)

end Go.Proofs.YtacecnffggffmaaDoor
