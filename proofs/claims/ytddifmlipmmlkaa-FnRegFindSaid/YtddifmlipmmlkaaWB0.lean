/- Mirrors and contracts, printed by a program: what each function computes as a plain term, and that it does. -/
import Derived.Test.YtddifmlipmmlkaaR
import Derived.Test.YtddifmlipmmlkaaS
import Derived.Test.YtddifmlipmmlkaaWA0
import Derived.Test.YtddifmlipmmlkaaWA1
import Derived.Test.YtddifmlipmmlkaaWA2
import Derived.Test.YtddifmlipmmlkaaWA3
set_option linter.all false
set_option maxRecDepth 100000
namespace Go.Proofs.Ytddifmlipmmlkaa
open Go.RowKit

def m_spec_l92Version (N : Nat) (cd : List UInt8) (p : Nat) : Option ((List Flow × Int) × Nat) := (m_spec_l92Registry N cd p).bind fun x6 => ((bif ltb 0 ((x6.1.length : Nat) : Int) then (m_spec_l6Rd_pick N cd x6.2 5).bind fun x12 => some (x12.2, ltb 0 x12.1)
 else some (x6.2, false)) : Option (Nat × Bool)).bind fun j104 => (bif j104.2 then (m_spec_l6Rd_pick N cd j104.1 ((x6.1.length : Nat) : Int)).bind fun x20 => (geti x6.1 x20.1).bind fun y21 => some ((x6.1, y21.ver), x20.2)
 else (m_spec_l6Rd_pick N cd j104.1 9).bind fun x26 => some ((x6.1, x26.1), x26.2))

set_option maxHeartbeats 4000000 in
theorem c_spec_l92Version (N : Nat) (cd : List UInt8) (p : Nat) (res : (List Flow × Int) × Nat) (h : m_spec_l92Version N cd p = some res) (w : World) {r ccd : Nat} {acd : Option Addr} (hr : (blkC r 116 [.slice acd cd.length ccd, .int .i64 ((p : Nat) : Int)]).A w) (hcd : bytesL.rd w [r] [.slice acd cd.length ccd] cd) : Ret Try.prog 85 [.pointer (some ⟨r, 0, none⟩)] w [r] fun v w' => ∃ a1 c1 F1, v = .tuple #[.slice a1 res.1.1.length c1, .int .i64 res.1.2] ∧ NewM w w' [r] [owC flowsL F1 [.slice a1 res.1.1.length c1] res.1.1, blkC r 116 [.slice acd cd.length ccd, .int .i64 ((res.2 : Nat) : Int)]] := by
  have mhcd := rd_max hcd
  unfold m_spec_l92Version at h
  refine ret_enter Try.func85 rfl Try.ntmps85 rfl (hp_one hr (by simp [blkC])) ?_
  refine cw_seq ?_
  refine cw_region ?_
  refine wl_u rfl (ow_y (yh_assign rfl rfl) rfl rfl (kk_wl ?_))
  refine wl_u rfl (ow_y (yh_assign rfl rfl) rfl rfl (kk_wl ?_))
  refine wl_nil ?_
  refine ex_seq ?_
  refine cw_seq ?_
  refine cw_region ?_
  refine wl_u rfl (ow_y (yh_move rfl rfl) rfl rfl (kk_wl ?_))
  obtain ⟨x6, hx6, h⟩ := bd h
  refine wl_u rfl (ow_cM1 0 rfl hb66 rfl rfl (fun w hw => c_spec_l92Registry N _ _ _ hx6 w (hw.at (i := 0) rfl) (Lay.atR (i := 0) hcd rfl hw)) rfl rfl (fun a6 c6 F6 => kk_wl ?_))
  refine wl_u rfl (ow_y (yh_assign rfl rfl) rfl rfl (kk_wl ?_))
  refine wl_nil ?_
  refine ex_seq ?_
  refine cw_seq ?_
  obtain ⟨j104, he104, hk104⟩ := bd h
  clear h
  refine cw_cut (σ := Unit) (fun s => True) (fun s => [(0, .pointer (some ⟨r, 0, none⟩)), (4, .slice a6 x6.1.length c6), (14, .bool j104.2)]) (fun s => [blkC r 116 [.slice acd cd.length ccd, .int .i64 ((j104.1 : Nat) : Int)], owC flowsL F6 [.slice a6 x6.1.length c6] x6.1]) (fun s hI => ?_) (fun KL hn104 => ?_)
  · skip
    have h := hk104
    refine cw_split rfl (fun c1 => ?_) (fun c1 => ?_)
    · skip
      replace h := bt c1 h
      refine cw_seq ?_
      refine cw_dr [0, 1, 2, 3, 4, 6, 7, 8, 9, 10] [] [owC flowsL F6 [.slice a6 x6.1.length c6] x6.1] (by kernel_rfl) ?_
      refine wd_take (i := 0) [1] rfl rfl rfl rfl rfl (by kernel_rfl) rfl (fun _ _ _ _ h => h) (yh_move rfl rfl) ?_
      refine wd_take (i := 1) [1] rfl rfl rfl rfl rfl (by kernel_rfl) rfl (fun _ _ _ _ h => h) (yh_move rfl rfl) ?_
      refine wd_take (i := 2) [1] rfl rfl rfl rfl rfl (by kernel_rfl) rfl (fun _ _ _ _ h => h) (yh_move rfl rfl) ?_
      refine wd_take (i := 3) [1] rfl rfl rfl rfl rfl (by kernel_rfl) rfl (fun _ _ _ _ h => h) (yh_move rfl rfl) ?_
      refine wd_know (x6.1.length ≤ 9223372036854775807) (fun w hw => own_max 1 rfl hw) (fun mo19 => ?_)
      refine wd_take (i := 4) [1] rfl rfl rfl rfl rfl (by kernel_rfl) rfl (fun _ _ _ _ h => h) (yh_lenS Tb rfl rfl rfl rfl) ?_
      obtain ⟨x20, hx20, h⟩ := bd h
      refine wd_one 5 rfl rfl (by kernel_rfl) (ow_cM0 0 rfl hb55 rfl rfl (fun w hw => c_spec_l6Rd_pick N _ _ _ _ hx20 w (hw.at (i := 0) rfl) (Lay.atR (i := 0) hcd rfl hw)) rfl rfl (kk_wd [1] rfl ?_))
      obtain ⟨y21, zy21, h⟩ := bd h
      obtain ⟨iy21, hy21⟩ := geti_some zy21
      refine wd_ex (fun g => a6 = some ⟨g, 0, none⟩) (fun w hw => own_addrK 1 rfl hy21 hw) (fun g21 hg21 => ?_)
      subst hg21
      refine wd_take (i := 6) [1] rfl rfl rfl rfl rfl (by kernel_rfl) rfl (fun _ _ _ _ h => h) (yh_idx Tb (k := x20.1.toNat) rfl rfl rfl iy21 (get_lt hy21) rfl rfl) ?_
      refine wd_take (i := 7) [1] rfl rfl rfl rfl rfl (by kernel_rfl) rfl (fun _ _ _ _ h => h) (yh_field Tb rfl rfl rfl) ?_
      refine wd_take (i := 8) [1] rfl rfl rfl rfl rfl (by kernel_rfl) rfl (fun _ _ _ _ h => h) (yh_loadOE Tb 0 0 (fun w F cs h => by obtain ⟨a, c, rfl, _⟩ := flowL_ow h; rfl) rfl rfl rfl rfl hy21) ?_
      refine wd_take (i := 9) [1] rfl rfl rfl rfl rfl (by kernel_rfl) rfl (fun _ _ _ _ h => h) (yh_assign rfl rfl) ?_
      refine wd_take (i := 10) [1] rfl rfl rfl rfl rfl (by kernel_rfl) rfl (fun _ _ _ _ h => h) (yh_assign rfl rfl) ?_
      refine wd_done (by kernel_rfl) ?_
      refine ex_seq ?_
      refine cw_ret ?_
      refine ex_then_ret ?_
      obtain rfl := Option.some.inj h
      exact ex_r2 Tb rfl (.tmp rfl) (.tmp rfl) (fun wq hq => ⟨_, rfl, hq.ext, ⟨(some ⟨g21, 0, none⟩), c6, F6, rfl, NewM.sel [1, 0] hq rfl⟩⟩)
    · skip
      replace h := bf c1 h
      refine cw_skip ?_
      refine ex_seq ?_
      refine cw_seq ?_
      refine cw_region ?_
      refine wl_u rfl (ow_y (yh_move rfl rfl) rfl rfl (kk_wl ?_))
      refine wl_u rfl (ow_y (yh_move rfl rfl) rfl rfl (kk_wl ?_))
      obtain ⟨x26, hx26, h⟩ := bd h
      have mp26 := pick_lt hx26 (by decide)
      refine wl_u rfl (ow_cM0 0 rfl hb55 rfl rfl (fun w hw => c_spec_l6Rd_pick N _ _ _ _ hx26 w (hw.at (i := 0) rfl) (Lay.atR (i := 0) hcd rfl hw)) rfl rfl (kk_wl ?_))
      refine wl_u rfl (ow_y (yh_assign rfl rfl) rfl rfl (kk_wl ?_))
      refine wl_u rfl (ow_y (yh_assign rfl rfl) rfl rfl (kk_wl ?_))
      refine wl_nil ?_
      refine ex_seq ?_
      refine cw_ret ?_
      obtain rfl := Option.some.inj h
      exact ex_r2 Tb rfl (.tmp rfl) (.tmp rfl) (fun wq hq => ⟨_, rfl, hq.ext, ⟨a6, c6, F6, rfl, NewM.sel [1, 0] hq rfl⟩⟩)
  · skip
    have h := he104
    refine cw_region ?_
    refine wl_u rfl (ow_y (yh_move rfl rfl) rfl rfl (kk_wl ?_))
    refine wl_know (x6.1.length ≤ 9223372036854775807) (fun w hw => own_max 0 rfl hw) (fun mo8 => ?_)
    refine wl_u rfl (ow_y (yh_lenS Tb rfl rfl rfl rfl) rfl rfl (kk_wl ?_))
    refine wl_u rfl (ow_y (yh_cmpI rfl rfl rfl rfl) rfl rfl (kk_wl ?_))
    refine wl_u rfl (ow_y (yh_move rfl rfl) rfl rfl (kk_wl ?_))
    refine wl_s rfl rfl (fun c2 => ?_) (fun c2 => ?_)
    · skip
      replace h := bt c2 h
      have q1 := ltb_true.1 c2
      refine wl_g rfl rfl (ow_y (yh_move rfl rfl) rfl rfl (kk_wl ?_))
      obtain ⟨x12, hx12, h⟩ := bd h
      have mp12 := pick_lt hx12 (by decide)
      refine wl_g rfl rfl (ow_cM0 1 rfl hb55 rfl rfl (fun w hw => c_spec_l6Rd_pick N _ _ _ _ hx12 w (hw.at (i := 1) rfl) (Lay.atR (i := 1) hcd rfl hw)) rfl rfl (kk_wl ?_))
      refine wl_g rfl rfl (ow_y (yh_cmpI rfl rfl rfl rfl) rfl rfl (kk_wl ?_))
      refine wl_u rfl (ow_y (yh_pickT rfl rfl rfl) rfl rfl (kk_wl ?_))
      refine wl_nil ?_
      obtain rfl := Option.some.inj h
      exact ex_next [0, 1] (hn104 () trivial) ⟨rfl, rfl, rfl, trivial⟩ rfl
    · skip
      replace h := bf c2 h
      have q2 := ltb_false.1 c2
      refine wl_n rfl rfl rfl rfl ?_
      refine wl_n rfl rfl rfl rfl ?_
      refine wl_n rfl rfl rfl rfl ?_
      refine wl_u rfl (ow_y (yh_pickF rfl rfl rfl) rfl rfl (kk_wl ?_))
      refine wl_nil ?_
      obtain rfl := Option.some.inj h
      exact ex_next [1, 0] (hn104 () trivial) ⟨rfl, rfl, rfl, trivial⟩ rfl

def m_spec_DrawRegistryFind (N : Nat) (code : List UInt8) : Option (List Flow × Int) := (m_spec_l92Version N (code.take 2000) 0).bind fun x6 => some (x6.1.1, x6.1.2)

set_option maxHeartbeats 4000000 in
theorem c_spec_DrawRegistryFind (N : Nat) (code : List UInt8) (res : List Flow × Int) (h : m_spec_DrawRegistryFind N code = some res) (w : World) {a_code : Option Addr} {c_code : Nat} (h_code : bytesL.rd w [] [.slice a_code code.length c_code] code) : Ret Try.prog 46 [.slice a_code code.length c_code] w [] fun v w' => ∃ a1 c1 F1, v = .tuple #[.slice a1 res.1.length c1, .int .i64 res.2] ∧ NewC w w' [owC flowsL F1 [.slice a1 res.1.length c1] res.1] := by
  have mh_code := rd_max h_code
  unfold m_spec_DrawRegistryFind at h
  refine ret_enter Try.func46 rfl Try.ntmps46 rfl (Hp.refl w _) ?_
  refine cw_seq ?_
  refine cw_region ?_
  refine wl_u rfl (ow_y (yh_assign rfl rfl) rfl rfl (kk_wl ?_))
  refine wl_u rfl (ow_y (yh_assign rfl rfl) rfl rfl (kk_wl ?_))
  refine wl_nil ?_
  refine ex_seq ?_
  refine cw_seq ?_
  refine cw_region ?_
  refine wl_u rfl (ow_y (yh_move rfl rfl) rfl rfl (kk_wl ?_))
  have hf5 := take_fact h_code 2000
  refine wl_u rfl (ow_open rfl rfl (fun w hw => Lay.at_ h_code hw) rfl rfl (fun g5 => kk_wl ?_))
  obtain ⟨x6, hx6, h⟩ := bd h
  refine wl_u rfl (ow_cM1 0 rfl hb85 rfl rfl (fun w hw => c_spec_l92Version N _ _ _ hx6 w (hw.at (i := 0) rfl) (Lay.atR (i := 0) hf5 rfl hw)) rfl rfl (fun a6 c6 F6 => kk_wl ?_))
  refine wl_u rfl (ow_y (yh_extract rfl rfl rfl) rfl rfl (kk_wl ?_))
  refine wl_u rfl (ow_y (yh_extract rfl rfl rfl) rfl rfl (kk_wl ?_))
  refine wl_u rfl (ow_y (yh_assign rfl rfl) rfl rfl (kk_wl ?_))
  refine wl_u rfl (ow_y (yh_assign rfl rfl) rfl rfl (kk_wl ?_))
  refine wl_nil ?_
  refine ex_seq ?_
  refine cw_ret ?_
  obtain rfl := Option.some.inj h
  exact ex_r2 Tb rfl (.tmp rfl) (.tmp rfl) (fun wq hq => ⟨_, rfl, hq.ext, ⟨a6, c6, F6, rfl, NewC.sel [0] hq rfl⟩⟩)

def m_laws_FnRegFind_L16 (N : Nat) (x15 : List Flow × Int) (x21 : Flow × Bool) : Nat → Nat → Option (Ex (Nat) (Bool))
  | 0, _ => none
  | n + 1, s9 => (bif ltb ((s9 : Nat) : Int) ((x15.1.length : Nat) : Int) then (x15.1[s9]?).bind fun y59 => (m_laws_sameFlow N y59 x21.1).bind fun x62 => (bif x62 then some (Ex.ret (eqb x21.1.ver x15.2))
 else m_laws_FnRegFind_L16 N x15 x21 n (s9 + 1))
 else some (Ex.brk (s9)))

def m_laws_FnRegFind (N : Nat) (u0 : List UInt8) : Option (Bool) := (bif ltb 1048576 ((u0.length : Nat) : Int) then some true
 else (m_spec_DrawRegistryFind N u0).bind fun x15 => (m_impl_RegistryFind N x15.1 x15.2).bind fun x21 => (m_spec_RegistryFind N x15.1 x15.2).bind fun x27 => (bif x21.2 != x27.2 then (bif x21.2 == x27.2 then (m_laws_sameFlow N x21.1 x27.1).bind fun x49 => some x49
 else some false)
 else (m_laws_sameFlow N x21.1 x27.1).bind fun x36 => (bif !x36 then (bif x21.2 == x27.2 then (m_laws_sameFlow N x21.1 x27.1).bind fun x49 => some x49
 else some false)
 else (bif !x21.2 then (bif x21.2 == x27.2 then (m_laws_sameFlow N x21.1 x27.1).bind fun x49 => some x49
 else some false)
 else (m_laws_FnRegFind_L16 N x15 x21 N 0).bind fun e16 => e16.go (fun r => r) fun b16 => some false))))

set_option maxHeartbeats 4000000 in
theorem c_laws_FnRegFind (N : Nat) (u0 : List UInt8) (res : Bool) (h : m_laws_FnRegFind N u0 = some res) (w : World) {a_u0 : Option Addr} {c_u0 : Nat} (h_u0 : bytesL.rd w [] [.slice a_u0 u0.length c_u0] u0) : Ret Try.prog 12 [.slice a_u0 u0.length c_u0] w [] fun v w' => v = .bool res := by
  have mh_u0 := rd_max h_u0
  unfold m_laws_FnRegFind at h
  refine ret_enter Try.func12 rfl Try.ntmps12 rfl (Hp.refl w _) ?_
  refine cw_seq ?_
  refine cw_region ?_
  refine wl_u rfl (ow_y (yh_assign rfl rfl) rfl rfl (kk_wl ?_))
  refine wl_nil ?_
  refine ex_seq ?_
  refine cw_seq ?_
  refine cw_seq ?_
  refine cw_region ?_
  refine wl_u rfl (ow_y (yh_move rfl rfl) rfl rfl (kk_wl ?_))
  refine wl_u rfl (ow_y (yh_lenS Tb rfl rfl rfl rfl) rfl rfl (kk_wl ?_))
  refine wl_u rfl (ow_y (yh_cmpI rfl rfl rfl rfl) rfl rfl (kk_wl ?_))
  refine wl_nil ?_
  refine ex_seq ?_
  refine cw_split rfl (fun c1 => ?_) (fun c1 => ?_)
  · skip
    replace h := bt c1 h
    have q1 := ltb_true.1 c1
    refine cw_seq ?_
    refine cw_region ?_
    refine wl_u rfl (ow_y (yh_assign rfl rfl) rfl rfl (kk_wl ?_))
    refine wl_nil ?_
    refine ex_seq ?_
    refine cw_ret ?_
    refine ex_then_ret ?_
    obtain rfl := Option.some.inj h
    exact ex_r1 Tb rfl (.tmp rfl) (fun wq hq => ⟨_, rfl, hq.ext, rfl⟩)
  · skip
    replace h := bf c1 h
    have q2 := ltb_false.1 c1
    refine cw_skip ?_
    refine ex_seq ?_
    refine cw_seq ?_
    refine cw_region ?_
    refine wl_u rfl (ow_y (yh_move rfl rfl) rfl rfl (kk_wl ?_))
    obtain ⟨x15, hx15, h⟩ := bd h
    refine wl_u rfl (ow_cN1 rfl hb46 rfl (fun w hw => c_spec_DrawRegistryFind N _ _ hx15 w (Lay.at_ h_u0 hw)) rfl rfl (fun a15 c15 F15 => kk_wl ?_))
    refine wl_u rfl (ow_y (yh_move rfl rfl) rfl rfl (kk_wl ?_))
    refine wl_u rfl (ow_y (yh_extract rfl rfl rfl) rfl rfl (kk_wl ?_))
    refine wl_u rfl (ow_y (yh_extract rfl rfl rfl) rfl rfl (kk_wl ?_))
    refine wl_u rfl (ow_y (yh_assign rfl rfl) rfl rfl (kk_wl ?_))
    refine wl_u rfl (ow_y (yh_assign rfl rfl) rfl rfl (kk_wl ?_))
    refine wl_nil ?_
    refine ex_seq ?_
    refine cw_seq ?_
    refine cw_freeze 0 rfl (fun w1 M1 hb1_ hz1 => ?_)
    replace h_u0 := Lay.rb h_u0 hb1_
    have hB1 := hb1_
    have mz1 := rd_max hz1
    refine cw_region ?_
    refine wl_u rfl (ow_y (yh_move rfl rfl) rfl rfl (kk_wl ?_))
    refine wl_u rfl (ow_y (yh_move rfl rfl) rfl rfl (kk_wl ?_))
    obtain ⟨x21, hx21, h⟩ := bd h
    refine wl_u rfl (ow_cN1 rfl hb47 rfl (fun w hw => c_impl_RegistryFind N _ _ _ hx21 w (Lay.at_ hz1 hw)) rfl rfl (fun a21 c21 F21 => kk_wl ?_))
    refine wl_u rfl (ow_y (yh_move rfl rfl) rfl rfl (kk_wl ?_))
    refine wl_u rfl (ow_y (yh_extract rfl rfl rfl) rfl rfl (kk_wl ?_))
    refine wl_u rfl (ow_y (yh_extract rfl rfl rfl) rfl rfl (kk_wl ?_))
    refine wl_u rfl (ow_allocA Tb rfl rfl rfl rfl (fun g5 => kk_wl ?_))
    refine wl_u rfl (ow_storeA Tb (k := 0) rfl rfl rfl rfl rfl rfl rfl rfl rfl (kk_wl ?_))
    refine wl_u rfl (ow_y (yh_assign rfl rfl) rfl rfl (kk_wl ?_))
    refine wl_nil ?_
    refine ex_seq ?_
    refine cw_seq ?_
    refine cw_freeze 1 rfl (fun w2 M2 hb2_ hz2 => ?_)
    replace h_u0 := Lay.rb h_u0 hb2_
    replace hz1 := Lay.rb hz1 hb2_
    have hB2 := hB1.trans hb2_
    have mz2 := rd_max hz2
    refine cw_region ?_
    refine wl_u rfl (ow_y (yh_move rfl rfl) rfl rfl (kk_wl ?_))
    refine wl_u rfl (ow_y (yh_move rfl rfl) rfl rfl (kk_wl ?_))
    obtain ⟨x27, hx27, h⟩ := bd h
    refine wl_u rfl (ow_cN1 rfl hb48 rfl (fun w hw => c_spec_RegistryFind N _ _ _ hx27 w (Lay.at_ hz1 hw)) rfl rfl (fun a27 c27 F27 => kk_wl ?_))
    refine wl_u rfl (ow_y (yh_move rfl rfl) rfl rfl (kk_wl ?_))
    refine wl_u rfl (ow_y (yh_extract rfl rfl rfl) rfl rfl (kk_wl ?_))
    refine wl_u rfl (ow_y (yh_extract rfl rfl rfl) rfl rfl (kk_wl ?_))
    refine wl_u rfl (ow_allocA Tb rfl rfl rfl rfl (fun g7 => kk_wl ?_))
    refine wl_u rfl (ow_storeA Tb (k := 0) rfl rfl rfl rfl rfl rfl rfl rfl rfl (kk_wl ?_))
    refine wl_u rfl (ow_y (yh_assign rfl rfl) rfl rfl (kk_wl ?_))
    refine wl_nil ?_
    refine ex_seq ?_
    refine cw_seq ?_
    refine cw_seq ?_
    refine cw_freeze 1 rfl (fun w3 M3 hb3_ hz3 => ?_)
    replace h_u0 := Lay.rb h_u0 hb3_
    replace hz1 := Lay.rb hz1 hb3_
    replace hz2 := Lay.rb hz2 hb3_
    have hB3 := hB2.trans hb3_
    have mz3 := rd_max hz3
    refine cw_region ?_
    refine wl_u rfl (ow_y (yh_move rfl rfl) rfl rfl (kk_wl ?_))
    refine wl_u rfl (ow_y (yh_move rfl rfl) rfl rfl (kk_wl ?_))
    refine wl_u rfl (ow_y (yh_cmpB rfl rfl rfl rfl (by kernel_rfl)) rfl rfl (kk_wl ?_))
    refine wl_u rfl (ow_y (yh_move rfl rfl) rfl rfl (kk_wl ?_))
    refine wl_s rfl rfl (fun c2 => ?_) (fun c2 => ?_)
    · skip
      replace h := bt c2 h
      refine wl_n rfl rfl rfl rfl ?_
      refine wl_n rfl rfl rfl rfl ?_
      refine wl_n rfl rfl rfl rfl ?_
      refine wl_n rfl rfl rfl rfl ?_
      refine wl_u rfl (ow_y (yh_pickT rfl rfl rfl) rfl rfl (kk_wl ?_))
      refine wl_u rfl (ow_y (yh_move rfl rfl) rfl rfl (kk_wl ?_))
      refine wl_s rfl rfl (fun _ => ?_) nofun
      refine wl_n rfl rfl rfl rfl ?_
      refine wl_n rfl rfl rfl rfl ?_
      refine wl_u rfl (ow_y (yh_pickT rfl rfl rfl) rfl rfl (kk_wl ?_))
      refine wl_nil ?_
      refine ex_seq ?_
      refine cw_true rfl ?_
      refine cw_seq ?_
      refine cw_region ?_
      refine wl_u rfl (ow_y (yh_move rfl rfl) rfl rfl (kk_wl ?_))
      refine wl_u rfl (ow_y (yh_move rfl rfl) rfl rfl (kk_wl ?_))
      refine wl_u rfl (ow_y (yh_cmpB rfl rfl rfl rfl (by kernel_rfl)) rfl rfl (kk_wl ?_))
      refine wl_u rfl (ow_y (yh_move rfl rfl) rfl rfl (kk_wl ?_))
      refine wl_s rfl rfl (fun c3 => ?_) (fun c3 => ?_)
      · skip
        replace h := bt c3 h
        refine wl_g rfl rfl (ow_y (yh_loadBA Tb (k := 1) rfl rfl rfl rfl rfl rfl) rfl rfl (kk_wl ?_))
        refine wl_g rfl rfl (ow_y (yh_loadBA Tb (k := 0) rfl rfl rfl rfl rfl rfl) rfl rfl (kk_wl ?_))
        obtain ⟨x49, hx49, h⟩ := bd h
        refine wl_g rfl rfl (ow_cV rfl hb49 rfl (fun w hw => c_laws_sameFlow N _ _ _ hx49 w (Lay.at_ hz2 hw) (Lay.at_ hz3 hw)) rfl rfl (kk_wl ?_))
        refine wl_u rfl (ow_y (yh_pickT rfl rfl rfl) rfl rfl (kk_wl ?_))
        refine wl_u rfl (ow_y (yh_assign rfl rfl) rfl rfl (kk_wl ?_))
        refine wl_nil ?_
        refine ex_seq ?_
        refine cw_ret ?_
        refine ex_then_ret ?_
        obtain rfl := Option.some.inj h
        exact ex_r1 Tb rfl (.tmp rfl) (fun wq hq => ⟨_, rfl, (hB3.back hq).ext, rfl⟩)
      · skip
        replace h := bf c3 h
        refine wl_n rfl rfl rfl rfl ?_
        refine wl_n rfl rfl rfl rfl ?_
        refine wl_n rfl rfl rfl rfl ?_
        refine wl_u rfl (ow_y (yh_pickF rfl rfl rfl) rfl rfl (kk_wl ?_))
        refine wl_u rfl (ow_y (yh_assign rfl rfl) rfl rfl (kk_wl ?_))
        refine wl_nil ?_
        refine ex_seq ?_
        refine cw_ret ?_
        refine ex_then_ret ?_
        obtain rfl := Option.some.inj h
        exact ex_r1 Tb rfl (.tmp rfl) (fun wq hq => ⟨_, rfl, (hB3.back hq).ext, rfl⟩)
    · skip
      replace h := bf c2 h
      refine wl_g rfl rfl (ow_y (yh_loadBA Tb (k := 1) rfl rfl rfl rfl rfl rfl) rfl rfl (kk_wl ?_))
      refine wl_g rfl rfl (ow_y (yh_loadBA Tb (k := 0) rfl rfl rfl rfl rfl rfl) rfl rfl (kk_wl ?_))
      obtain ⟨x36, hx36, h⟩ := bd h
      refine wl_g rfl rfl (ow_cV rfl hb49 rfl (fun w hw => c_laws_sameFlow N _ _ _ hx36 w (Lay.at_ hz2 hw) (Lay.at_ hz3 hw)) rfl rfl (kk_wl ?_))
      refine wl_g rfl rfl (ow_y (yh_not rfl rfl) rfl rfl (kk_wl ?_))
      refine wl_u rfl (ow_y (yh_pickF rfl rfl rfl) rfl rfl (kk_wl ?_))
      refine wl_u rfl (ow_y (yh_move rfl rfl) rfl rfl (kk_wl ?_))
      refine wl_s rfl rfl (fun c4 => ?_) (fun c4 => ?_)
      · skip
        replace h := bt c4 h
        refine wl_n rfl rfl rfl rfl ?_
        refine wl_n rfl rfl rfl rfl ?_
        refine wl_u rfl (ow_y (yh_pickT rfl rfl rfl) rfl rfl (kk_wl ?_))
        refine wl_nil ?_
        refine ex_seq ?_
        refine cw_true rfl ?_
        refine cw_seq ?_
        refine cw_region ?_
        refine wl_u rfl (ow_y (yh_move rfl rfl) rfl rfl (kk_wl ?_))
        refine wl_u rfl (ow_y (yh_move rfl rfl) rfl rfl (kk_wl ?_))
        refine wl_u rfl (ow_y (yh_cmpB rfl rfl rfl rfl (by kernel_rfl)) rfl rfl (kk_wl ?_))
        refine wl_u rfl (ow_y (yh_move rfl rfl) rfl rfl (kk_wl ?_))
        refine wl_s rfl rfl (fun c5 => ?_) (fun c5 => ?_)
        · skip
          replace h := bt c5 h
          refine wl_g rfl rfl (ow_y (yh_loadBA Tb (k := 1) rfl rfl rfl rfl rfl rfl) rfl rfl (kk_wl ?_))
          refine wl_g rfl rfl (ow_y (yh_loadBA Tb (k := 0) rfl rfl rfl rfl rfl rfl) rfl rfl (kk_wl ?_))
          obtain ⟨x49, hx49, h⟩ := bd h
          refine wl_g rfl rfl (ow_cV rfl hb49 rfl (fun w hw => c_laws_sameFlow N _ _ _ hx49 w (Lay.at_ hz2 hw) (Lay.at_ hz3 hw)) rfl rfl (kk_wl ?_))
          refine wl_u rfl (ow_y (yh_pickT rfl rfl rfl) rfl rfl (kk_wl ?_))
          refine wl_u rfl (ow_y (yh_assign rfl rfl) rfl rfl (kk_wl ?_))
          refine wl_nil ?_
          refine ex_seq ?_
          refine cw_ret ?_
          refine ex_then_ret ?_
          obtain rfl := Option.some.inj h
          exact ex_r1 Tb rfl (.tmp rfl) (fun wq hq => ⟨_, rfl, (hB3.back hq).ext, rfl⟩)
        · skip
          replace h := bf c5 h
          refine wl_n rfl rfl rfl rfl ?_
          refine wl_n rfl rfl rfl rfl ?_
          refine wl_n rfl rfl rfl rfl ?_
          refine wl_u rfl (ow_y (yh_pickF rfl rfl rfl) rfl rfl (kk_wl ?_))
          refine wl_u rfl (ow_y (yh_assign rfl rfl) rfl rfl (kk_wl ?_))
          refine wl_nil ?_
          refine ex_seq ?_
          refine cw_ret ?_
          refine ex_then_ret ?_
          obtain rfl := Option.some.inj h
          exact ex_r1 Tb rfl (.tmp rfl) (fun wq hq => ⟨_, rfl, (hB3.back hq).ext, rfl⟩)
      · skip
        replace h := bf c4 h
        refine wl_g rfl rfl (ow_y (yh_move rfl rfl) rfl rfl (kk_wl ?_))
        refine wl_g rfl rfl (ow_y (yh_not rfl rfl) rfl rfl (kk_wl ?_))
        refine wl_u rfl (ow_y (yh_pickF rfl rfl rfl) rfl rfl (kk_wl ?_))
        refine wl_nil ?_
        refine ex_seq ?_
        refine cw_split rfl (fun c6 => ?_) (fun c6 => ?_)
        · skip
          replace h := bt c6 h
          refine cw_seq ?_
          refine cw_region ?_
          refine wl_u rfl (ow_y (yh_move rfl rfl) rfl rfl (kk_wl ?_))
          refine wl_u rfl (ow_y (yh_move rfl rfl) rfl rfl (kk_wl ?_))
          refine wl_u rfl (ow_y (yh_cmpB rfl rfl rfl rfl (by kernel_rfl)) rfl rfl (kk_wl ?_))
          refine wl_u rfl (ow_y (yh_move rfl rfl) rfl rfl (kk_wl ?_))
          refine wl_s rfl rfl (fun c7 => ?_) (fun c7 => ?_)
          · skip
            replace h := bt c7 h
            refine wl_g rfl rfl (ow_y (yh_loadBA Tb (k := 1) rfl rfl rfl rfl rfl rfl) rfl rfl (kk_wl ?_))
            refine wl_g rfl rfl (ow_y (yh_loadBA Tb (k := 0) rfl rfl rfl rfl rfl rfl) rfl rfl (kk_wl ?_))
            obtain ⟨x49, hx49, h⟩ := bd h
            refine wl_g rfl rfl (ow_cV rfl hb49 rfl (fun w hw => c_laws_sameFlow N _ _ _ hx49 w (Lay.at_ hz2 hw) (Lay.at_ hz3 hw)) rfl rfl (kk_wl ?_))
            refine wl_u rfl (ow_y (yh_pickT rfl rfl rfl) rfl rfl (kk_wl ?_))
            refine wl_u rfl (ow_y (yh_assign rfl rfl) rfl rfl (kk_wl ?_))
            refine wl_nil ?_
            refine ex_seq ?_
            refine cw_ret ?_
            refine ex_then_ret ?_
            obtain rfl := Option.some.inj h
            exact ex_r1 Tb rfl (.tmp rfl) (fun wq hq => ⟨_, rfl, (hB3.back hq).ext, rfl⟩)
          · skip
            replace h := bf c7 h
            refine wl_n rfl rfl rfl rfl ?_
            refine wl_n rfl rfl rfl rfl ?_
            refine wl_n rfl rfl rfl rfl ?_
            refine wl_u rfl (ow_y (yh_pickF rfl rfl rfl) rfl rfl (kk_wl ?_))
            refine wl_u rfl (ow_y (yh_assign rfl rfl) rfl rfl (kk_wl ?_))
            refine wl_nil ?_
            refine ex_seq ?_
            refine cw_ret ?_
            refine ex_then_ret ?_
            obtain rfl := Option.some.inj h
            exact ex_r1 Tb rfl (.tmp rfl) (fun wq hq => ⟨_, rfl, (hB3.back hq).ext, rfl⟩)
        · skip
          replace h := bf c6 h
          refine cw_skip ?_
          refine ex_seq ?_
          refine cw_seq ?_
          refine cw_seq ?_
          refine cw_region ?_
          refine wl_u rfl (ow_y (yh_assign rfl rfl) rfl rfl (kk_wl ?_))
          refine wl_nil ?_
          refine ex_seq ?_
          refine cw_block ?_
          obtain ⟨e16, he16, hk16⟩ := bd h
          clear h
          refine cw_loopG (σ := Nat × Nat) (fun s => m_laws_FnRegFind_L16 N x15 x21 s.1 s.2 = some e16) (fun s => [(3, .slice a15 x15.1.length c15), (4, .int .i64 x15.2), (5, .pointer (some ⟨g5, 0, none⟩)), (9, .int .i64 ((s.2 : Nat) : Int))]) (fun s => [blkC g5 46 [.int .i64 x21.1.ver, .slice a21 x21.1.steps.length c21]]) (fun s => s.1) (N, 0) [1] he16 ⟨rfl, rfl, rfl, rfl, trivial⟩ rfl (fun KL s he16 hn16 => ?_)
          obtain ⟨n16, s9⟩ := s
          simp only at he16 hn16 ⊢
          rcases n16 with _ | n16
          · exact nosome he16
          have h := he16; rw [m_laws_FnRegFind_L16] at h
          refine cw_seq ?_
          refine cw_seq ?_
          refine cw_region ?_
          refine wl_u rfl (ow_y (yh_move rfl rfl) rfl rfl (kk_wl ?_))
          refine wl_u rfl (ow_y (yh_move rfl rfl) rfl rfl (kk_wl ?_))
          refine wl_u rfl (ow_y (yh_lenS Tb rfl rfl rfl rfl) rfl rfl (kk_wl ?_))
          refine wl_u rfl (ow_y (yh_cmpI rfl rfl rfl rfl) rfl rfl (kk_wl ?_))
          refine wl_nil ?_
          refine ex_seq ?_
          refine cw_split rfl (fun c8 => ?_) (fun c8 => ?_)
          · skip
            replace h := bt c8 h
            have q3 := ltb_true.1 c8
            refine cw_skip ?_
            refine ex_seq ?_
            refine cw_seq ?_
            refine cw_block ?_
            refine cw_seq ?_
            refine cw_dr [0, 1, 2, 3, 4] [] [blkC g5 46 [.int .i64 x21.1.ver, .slice a21 x21.1.steps.length c21]] (by kernel_rfl) ?_
            refine wd_take (i := 0) [0] rfl rfl rfl rfl rfl (by kernel_rfl) rfl (fun _ _ _ _ h => h) (yh_move rfl rfl) ?_
            refine wd_take (i := 1) [0] rfl rfl rfl rfl rfl (by kernel_rfl) rfl (fun _ _ _ _ h => h) (yh_move rfl rfl) ?_
            obtain ⟨y59, hy59, h⟩ := bd h
            obtain ⟨b59, o59, ha59⟩ := sl_addr hz1 hy59
            subst ha59
            obtain ⟨a59, e59, hc59, hf59⟩ := get_flow hz1 hy59
            have mx59 := rd_max hf59
            refine wd_take (i := 2) [0] rfl rfl rfl rfl rfl (by kernel_rfl) rfl (fun _ _ _ _ h => h) (yh_idx Tb (k := s9) rfl rfl rfl rfl (get_lt hy59) rfl rfl) ?_
            refine wd_take (i := 3) [0] rfl rfl rfl rfl rfl (by kernel_rfl) rfl (fun _ _ _ _ h => h) (yh_loadAN Tb rfl rfl rfl rfl hc59 rfl) ?_
            refine wd_take (i := 4) [0] rfl rfl rfl rfl rfl (by kernel_rfl) rfl (fun _ _ _ _ h => h) (yh_loadBA Tb (k := 0) rfl rfl rfl rfl rfl rfl) ?_
            obtain ⟨x62, hx62, h⟩ := bd h
            refine wd_one 5 rfl rfl (by kernel_rfl) (ow_cV rfl hb49 rfl (fun w hw => c_laws_sameFlow N _ _ _ hx62 w (Lay.at_ hf59 hw) (Lay.at_ hz2 hw)) rfl rfl (kk_wd [0] rfl ?_))
            refine wd_done (by kernel_rfl) ?_
            refine ex_seq ?_
            refine cw_split rfl (fun c9 => ?_) (fun c9 => ?_)
            · skip
              replace h := bt c9 h
              refine cw_seq ?_
              refine cw_region ?_
              refine wl_u rfl (ow_y (yh_field Tb rfl rfl rfl) rfl rfl (kk_wl ?_))
              refine wl_u rfl (ow_y (yh_loadB Tb (k := 0) rfl rfl rfl rfl rfl) rfl rfl (kk_wl ?_))
              refine wl_u rfl (ow_y (yh_move rfl rfl) rfl rfl (kk_wl ?_))
              refine wl_u rfl (ow_y (yh_cmpI rfl rfl rfl rfl) rfl rfl (kk_wl ?_))
              refine wl_u rfl (ow_y (yh_assign rfl rfl) rfl rfl (kk_wl ?_))
              refine wl_nil ?_
              refine ex_seq ?_
              refine cw_ret ?_
              refine ex_block_ret ?_
              refine ex_then_ret ?_
              refine ex_then_ret ?_
              refine ex_block_ret ?_
              refine ex_then_ret ?_
              obtain rfl := Option.some.inj h
              obtain rfl := go_ret hk16
              exact ex_r1 Tb rfl (.tmp rfl) (fun wq hq => ⟨_, rfl, (hB3.back hq).ext, rfl⟩)
            · skip
              replace h := bf c9 h
              refine cw_skip ?_
              refine ex_block_normal ?_
              refine ex_seq ?_
              refine cw_region ?_
              refine wl_u rfl (ow_y (yh_move rfl rfl) rfl rfl (kk_wl ?_))
              refine wl_u rfl (ow_y (yh_arI rfl rfl rfl rfl (by omega)) rfl rfl (kk_wl ?_))
              refine wl_u rfl (ow_y (yh_assign rfl rfl) rfl rfl (kk_wl ?_))
              refine wl_nil ?_
              exact ex_next [0] (hn16 (n16, s9 + 1) (Nat.lt_succ_self _) h) ⟨rfl, rfl, rfl, rfl, trivial⟩ rfl
          · skip
            replace h := bf c8 h
            have q4 := ltb_false.1 c8
            refine cw_exit ?_
            refine ex_then_exit ?_
            refine ex_then_exit ?_
            obtain rfl := Option.some.inj h
            have h := go_brk hk16
            refine ex_block_exit ?_
            refine ex_seq ?_
            refine cw_seq ?_
            refine cw_region ?_
            refine wl_u rfl (ow_y (yh_assign rfl rfl) rfl rfl (kk_wl ?_))
            refine wl_nil ?_
            refine ex_seq ?_
            refine cw_ret ?_
            obtain rfl := Option.some.inj h
            exact ex_r1 Tb rfl (.tmp rfl) (fun wq hq => ⟨_, rfl, (hB3.back hq).ext, rfl⟩)

end Go.Proofs.Ytddifmlipmmlkaa
