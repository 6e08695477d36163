/- Mirrors and contracts, printed by a program: what each function computes as a plain term, and that it does. -/
import Derived.Test.YtmnhnldnnniglaaR
import Derived.Test.YtmnhnldnnniglaaK
import Derived.Test.YtmnhnldnnniglaaM
import Derived.Test.YtmnhnldnnniglaaWG0
import Derived.Test.YtmnhnldnnniglaaWG1
import Derived.Test.YtmnhnldnnniglaaWG2
set_option linter.all false
set_option maxRecDepth 100000
namespace Go.Proofs.Ytmnhnldnnniglaa
open Go.RowKit

def m_laws_FnChanges (N : Nat) (u0 : List UInt8) (u1 : List UInt8) : Option (Bool) := (bif ltb 1048576 ((u0.length : Nat) : Int) then some true
 else (bif ltb 1048576 ((u1.length : Nat) : Int) then some true
 else (m_spec_DrawFlowChanges N u0).bind fun x26 => (m_impl_FlowChanges N x26.1 x26.2).bind fun x32 => (m_spec_FlowChanges N x26.1 x26.2).bind fun x38 => (bif x32.2 != x38.2 then (bif x32.2 == x38.2 then (m_laws_sameFlow N x32.1 x38.1).bind fun x60 => some x60
 else some false)
 else (m_laws_sameFlow N x32.1 x38.1).bind fun x47 => (bif !x47 then (bif x32.2 == x38.2 then (m_laws_sameFlow N x32.1 x38.1).bind fun x60 => some x60
 else some false)
 else (bif !x32.2 then (bif x32.2 == x38.2 then (m_laws_sameFlow N x32.1 x38.1).bind fun x60 => some x60
 else some false)
 else (lsz x26.2.length).bind fun v66_ => (slTo x26.2 ((u1.length % (x26.2.length + 1) : Nat) : Int)).bind fun l72 => (m_impl_FlowChanges N x26.1 l72).bind fun x73 => (slFrom x26.2 ((u1.length % (x26.2.length + 1) : Nat) : Int)).bind fun l80 => (m_impl_FlowChanges N x73.1 l80).bind fun x81 => (bif x73.2 then (bif x81.2 then (m_laws_sameFlow N x81.1 x32.1).bind fun x91 => (bif x91 then some (eqb x32.1.ver (w64 (x26.1.ver + ((x26.2.length : Nat) : Int))))
 else some false)
 else some false)
 else some false))))))

set_option maxHeartbeats 4000000 in
theorem c_laws_FnChanges (N : Nat) (u0 : List UInt8) (u1 : List UInt8) (res : Bool) (h : m_laws_FnChanges N u0 u1 = some res) (w : World) {a_u0 a_u1 : Option Addr} {c_u0 c_u1 : Nat} (h_u0 : bytesL.rd w [] [.slice a_u0 u0.length c_u0] u0) (h_u1 : bytesL.rd w [] [.slice a_u1 u1.length c_u1] u1) : Ret Try.prog 5 [.slice a_u0 u0.length c_u0, .slice a_u1 u1.length c_u1] w [] fun v w' => v = .bool res := by
  have mh_u0 := rd_max h_u0
  have mh_u1 := rd_max h_u1
  unfold m_laws_FnChanges at h
  refine ret_enter Try.func5 rfl Try.ntmps5 rfl (Hp.refl w _) ?_
  refine cw_seq ?_
  refine cw_region ?_
  refine wl_u rfl (ow_y (yh_assign rfl rfl) rfl rfl (kk_wl ?_))
  refine wl_nil ?_
  refine ex_seq ?_
  refine cw_seq ?_
  refine cw_seq ?_
  refine cw_region ?_
  refine wl_u rfl (ow_y (yh_move rfl rfl) rfl rfl (kk_wl ?_))
  refine wl_u rfl (ow_y (yh_lenS Tb rfl rfl rfl rfl) rfl rfl (kk_wl ?_))
  refine wl_u rfl (ow_y (yh_cmpI rfl rfl rfl rfl) rfl rfl (kk_wl ?_))
  refine wl_u rfl (ow_y (yh_move rfl rfl) rfl rfl (kk_wl ?_))
  refine wl_s rfl rfl (fun cc1 => ?_) (fun cc1 => ?_)
  · skip
    replace h := bt cc1 h
    have q1 := ltb_true.1 cc1
    refine wl_n rfl rfl rfl rfl ?_
    refine wl_n rfl rfl rfl rfl ?_
    refine wl_n rfl rfl rfl rfl ?_
    refine wl_u rfl (ow_y (yh_pickT rfl rfl rfl) rfl rfl (kk_wl ?_))
    refine wl_nil ?_
    refine ex_seq ?_
    refine cw_true rfl ?_
    refine cw_seq ?_
    refine cw_region ?_
    refine wl_u rfl (ow_y (yh_assign rfl rfl) rfl rfl (kk_wl ?_))
    refine wl_nil ?_
    refine ex_seq ?_
    refine cw_ret ?_
    refine ex_then_ret ?_
    obtain rfl := Option.some.inj h
    exact ex_r1 Tb rfl (.tmp rfl) (fun wq hq => ⟨_, rfl, hq.ext, rfl⟩)
  · skip
    replace h := bf cc1 h
    have q2 := ltb_false.1 cc1
    refine wl_g rfl rfl (ow_y (yh_move rfl rfl) rfl rfl (kk_wl ?_))
    refine wl_g rfl rfl (ow_y (yh_lenS Tb rfl rfl rfl rfl) rfl rfl (kk_wl ?_))
    refine wl_g rfl rfl (ow_y (yh_cmpI rfl rfl rfl rfl) rfl rfl (kk_wl ?_))
    refine wl_u rfl (ow_y (yh_pickF rfl rfl rfl) rfl rfl (kk_wl ?_))
    refine wl_nil ?_
    refine ex_seq ?_
    refine cw_split rfl (fun cc2 => ?_) (fun cc2 => ?_)
    · skip
      replace h := bt cc2 h
      have q3 := ltb_true.1 cc2
      refine cw_seq ?_
      refine cw_region ?_
      refine wl_u rfl (ow_y (yh_assign rfl rfl) rfl rfl (kk_wl ?_))
      refine wl_nil ?_
      refine ex_seq ?_
      refine cw_ret ?_
      refine ex_then_ret ?_
      obtain rfl := Option.some.inj h
      exact ex_r1 Tb rfl (.tmp rfl) (fun wq hq => ⟨_, rfl, hq.ext, rfl⟩)
    · skip
      replace h := bf cc2 h
      have q4 := ltb_false.1 cc2
      refine cw_skip ?_
      refine ex_seq ?_
      refine cw_seq ?_
      refine cw_region ?_
      refine wl_u rfl (ow_y (yh_move rfl rfl) rfl rfl (kk_wl ?_))
      obtain ⟨x26, hx26, h⟩ := bd h
      refine wl_u rfl (ow_cN2 rfl hb16 rfl (fun w hw => c_spec_DrawFlowChanges N _ _ hx26 w (Lay.at_ h_u0 hw)) rfl rfl (fun a26 c26 F26 a26_2 c26_2 F26_2 => kk_wl ?_))
      refine wl_u rfl (ow_y (yh_move rfl rfl) rfl rfl (kk_wl ?_))
      refine wl_u rfl (ow_y (yh_extract rfl rfl rfl) rfl rfl (kk_wl ?_))
      refine wl_u rfl (ow_y (yh_extract rfl rfl rfl) rfl rfl (kk_wl ?_))
      refine wl_u rfl (ow_allocA Tb rfl rfl rfl rfl (fun g5 => kk_wl ?_))
      refine wl_u rfl (ow_storeA Tb (k := 0) rfl rfl rfl rfl rfl rfl rfl rfl rfl (kk_wl ?_))
      refine wl_u rfl (ow_y (yh_assign rfl rfl) rfl rfl (kk_wl ?_))
      refine wl_nil ?_
      refine ex_seq ?_
      refine cw_seq ?_
      refine cw_freeze 1 rfl (fun w1 M1 hb1_ hz1 => ?_)
      replace h_u0 := Lay.rb h_u0 hb1_
      replace h_u1 := Lay.rb h_u1 hb1_
      have hB1 := hb1_
      have mz1 := rd_max hz1
      refine cw_freeze 1 rfl (fun w2 M2 hb2_ hz2 => ?_)
      replace h_u0 := Lay.rb h_u0 hb2_
      replace h_u1 := Lay.rb h_u1 hb2_
      replace hz1 := Lay.rb hz1 hb2_
      have hB2 := hB1.trans hb2_
      have mz2 := rd_max hz2
      refine cw_region ?_
      refine wl_u rfl (ow_y (yh_loadBA Tb (k := 0) rfl rfl rfl rfl rfl rfl) rfl rfl (kk_wl ?_))
      refine wl_u rfl (ow_y (yh_move rfl rfl) rfl rfl (kk_wl ?_))
      obtain ⟨x32, hx32, h⟩ := bd h
      refine wl_u rfl (ow_cN1 rfl hb17 rfl (fun w hw => c_impl_FlowChanges N _ _ _ hx32 w (Lay.at_ hz1 hw) (Lay.at_ hz2 hw)) rfl rfl (fun a32 c32 F32 => kk_wl ?_))
      refine wl_u rfl (ow_y (yh_move rfl rfl) rfl rfl (kk_wl ?_))
      refine wl_u rfl (ow_y (yh_extract rfl rfl rfl) rfl rfl (kk_wl ?_))
      refine wl_u rfl (ow_y (yh_extract rfl rfl rfl) rfl rfl (kk_wl ?_))
      refine wl_u rfl (ow_allocA Tb rfl rfl rfl rfl (fun g7 => kk_wl ?_))
      refine wl_u rfl (ow_storeA Tb (k := 0) rfl rfl rfl rfl rfl rfl rfl rfl rfl (kk_wl ?_))
      refine wl_u rfl (ow_y (yh_assign rfl rfl) rfl rfl (kk_wl ?_))
      refine wl_nil ?_
      refine ex_seq ?_
      refine cw_seq ?_
      refine cw_freeze 1 rfl (fun w3 M3 hb3_ hz3 => ?_)
      replace h_u0 := Lay.rb h_u0 hb3_
      replace h_u1 := Lay.rb h_u1 hb3_
      replace hz1 := Lay.rb hz1 hb3_
      replace hz2 := Lay.rb hz2 hb3_
      have hB3 := hB2.trans hb3_
      have mz3 := rd_max hz3
      refine cw_region ?_
      refine wl_u rfl (ow_y (yh_loadBA Tb (k := 1) rfl rfl rfl rfl rfl rfl) rfl rfl (kk_wl ?_))
      refine wl_u rfl (ow_y (yh_move rfl rfl) rfl rfl (kk_wl ?_))
      obtain ⟨x38, hx38, h⟩ := bd h
      refine wl_u rfl (ow_cN1 rfl hb18 rfl (fun w hw => c_spec_FlowChanges N _ _ _ hx38 w (Lay.at_ hz1 hw) (Lay.at_ hz2 hw)) rfl rfl (fun a38 c38 F38 => kk_wl ?_))
      refine wl_u rfl (ow_y (yh_move rfl rfl) rfl rfl (kk_wl ?_))
      refine wl_u rfl (ow_y (yh_extract rfl rfl rfl) rfl rfl (kk_wl ?_))
      refine wl_u rfl (ow_y (yh_extract rfl rfl rfl) rfl rfl (kk_wl ?_))
      refine wl_u rfl (ow_allocA Tb rfl rfl rfl rfl (fun g9 => kk_wl ?_))
      refine wl_u rfl (ow_storeA Tb (k := 0) rfl rfl rfl rfl rfl rfl rfl rfl rfl (kk_wl ?_))
      refine wl_u rfl (ow_y (yh_assign rfl rfl) rfl rfl (kk_wl ?_))
      refine wl_nil ?_
      refine ex_seq ?_
      refine cw_seq ?_
      refine cw_seq ?_
      refine cw_freeze 1 rfl (fun w4 M4 hb4_ hz4 => ?_)
      replace h_u0 := Lay.rb h_u0 hb4_
      replace h_u1 := Lay.rb h_u1 hb4_
      replace hz1 := Lay.rb hz1 hb4_
      replace hz2 := Lay.rb hz2 hb4_
      replace hz3 := Lay.rb hz3 hb4_
      have hB4 := hB3.trans hb4_
      have mz4 := rd_max hz4
      refine cw_region ?_
      refine wl_u rfl (ow_y (yh_move rfl rfl) rfl rfl (kk_wl ?_))
      refine wl_u rfl (ow_y (yh_move rfl rfl) rfl rfl (kk_wl ?_))
      refine wl_u rfl (ow_y (yh_cmpB rfl rfl rfl rfl (by kernel_rfl)) rfl rfl (kk_wl ?_))
      refine wl_u rfl (ow_y (yh_move rfl rfl) rfl rfl (kk_wl ?_))
      refine wl_s rfl rfl (fun cc3 => ?_) (fun cc3 => ?_)
      · skip
        replace h := bt cc3 h
        refine wl_n rfl rfl rfl rfl ?_
        refine wl_n rfl rfl rfl rfl ?_
        refine wl_n rfl rfl rfl rfl ?_
        refine wl_n rfl rfl rfl rfl ?_
        refine wl_u rfl (ow_y (yh_pickT rfl rfl rfl) rfl rfl (kk_wl ?_))
        refine wl_u rfl (ow_y (yh_move rfl rfl) rfl rfl (kk_wl ?_))
        refine wl_s rfl rfl (fun _ => ?_) nofun
        refine wl_n rfl rfl rfl rfl ?_
        refine wl_n rfl rfl rfl rfl ?_
        refine wl_u rfl (ow_y (yh_pickT rfl rfl rfl) rfl rfl (kk_wl ?_))
        refine wl_nil ?_
        refine ex_seq ?_
        refine cw_true rfl ?_
        refine cw_seq ?_
        refine cw_region ?_
        refine wl_u rfl (ow_y (yh_move rfl rfl) rfl rfl (kk_wl ?_))
        refine wl_u rfl (ow_y (yh_move rfl rfl) rfl rfl (kk_wl ?_))
        refine wl_u rfl (ow_y (yh_cmpB rfl rfl rfl rfl (by kernel_rfl)) rfl rfl (kk_wl ?_))
        refine wl_u rfl (ow_y (yh_move rfl rfl) rfl rfl (kk_wl ?_))
        refine wl_s rfl rfl (fun cc4 => ?_) (fun cc4 => ?_)
        · skip
          replace h := bt cc4 h
          refine wl_g rfl rfl (ow_y (yh_loadBA Tb (k := 1) rfl rfl rfl rfl rfl rfl) rfl rfl (kk_wl ?_))
          refine wl_g rfl rfl (ow_y (yh_loadBA Tb (k := 0) rfl rfl rfl rfl rfl rfl) rfl rfl (kk_wl ?_))
          obtain ⟨x60, hx60, h⟩ := bd h
          refine wl_g rfl rfl (ow_cV rfl hb10 rfl (fun w hw => c_laws_sameFlow N _ _ _ hx60 w (Lay.at_ hz3 hw) (Lay.at_ hz4 hw)) rfl rfl (kk_wl ?_))
          refine wl_u rfl (ow_y (yh_pickT rfl rfl rfl) rfl rfl (kk_wl ?_))
          refine wl_u rfl (ow_y (yh_assign rfl rfl) rfl rfl (kk_wl ?_))
          refine wl_nil ?_
          refine ex_seq ?_
          refine cw_ret ?_
          refine ex_then_ret ?_
          obtain rfl := Option.some.inj h
          exact ex_r1 Tb rfl (.tmp rfl) (fun wq hq => ⟨_, rfl, (hB4.back hq).ext, rfl⟩)
        · skip
          replace h := bf cc4 h
          refine wl_n rfl rfl rfl rfl ?_
          refine wl_n rfl rfl rfl rfl ?_
          refine wl_n rfl rfl rfl rfl ?_
          refine wl_u rfl (ow_y (yh_pickF rfl rfl rfl) rfl rfl (kk_wl ?_))
          refine wl_u rfl (ow_y (yh_assign rfl rfl) rfl rfl (kk_wl ?_))
          refine wl_nil ?_
          refine ex_seq ?_
          refine cw_ret ?_
          refine ex_then_ret ?_
          obtain rfl := Option.some.inj h
          exact ex_r1 Tb rfl (.tmp rfl) (fun wq hq => ⟨_, rfl, (hB4.back hq).ext, rfl⟩)
      · skip
        replace h := bf cc3 h
        refine wl_g rfl rfl (ow_y (yh_loadBA Tb (k := 1) rfl rfl rfl rfl rfl rfl) rfl rfl (kk_wl ?_))
        refine wl_g rfl rfl (ow_y (yh_loadBA Tb (k := 0) rfl rfl rfl rfl rfl rfl) rfl rfl (kk_wl ?_))
        obtain ⟨x47, hx47, h⟩ := bd h
        refine wl_g rfl rfl (ow_cV rfl hb10 rfl (fun w hw => c_laws_sameFlow N _ _ _ hx47 w (Lay.at_ hz3 hw) (Lay.at_ hz4 hw)) rfl rfl (kk_wl ?_))
        refine wl_g rfl rfl (ow_y (yh_not rfl rfl) rfl rfl (kk_wl ?_))
        refine wl_u rfl (ow_y (yh_pickF rfl rfl rfl) rfl rfl (kk_wl ?_))
        refine wl_u rfl (ow_y (yh_move rfl rfl) rfl rfl (kk_wl ?_))
        refine wl_s rfl rfl (fun cc5 => ?_) (fun cc5 => ?_)
        · skip
          replace h := bt cc5 h
          refine wl_n rfl rfl rfl rfl ?_
          refine wl_n rfl rfl rfl rfl ?_
          refine wl_u rfl (ow_y (yh_pickT rfl rfl rfl) rfl rfl (kk_wl ?_))
          refine wl_nil ?_
          refine ex_seq ?_
          refine cw_true rfl ?_
          refine cw_seq ?_
          refine cw_region ?_
          refine wl_u rfl (ow_y (yh_move rfl rfl) rfl rfl (kk_wl ?_))
          refine wl_u rfl (ow_y (yh_move rfl rfl) rfl rfl (kk_wl ?_))
          refine wl_u rfl (ow_y (yh_cmpB rfl rfl rfl rfl (by kernel_rfl)) rfl rfl (kk_wl ?_))
          refine wl_u rfl (ow_y (yh_move rfl rfl) rfl rfl (kk_wl ?_))
          refine wl_s rfl rfl (fun cc6 => ?_) (fun cc6 => ?_)
          · skip
            replace h := bt cc6 h
            refine wl_g rfl rfl (ow_y (yh_loadBA Tb (k := 1) rfl rfl rfl rfl rfl rfl) rfl rfl (kk_wl ?_))
            refine wl_g rfl rfl (ow_y (yh_loadBA Tb (k := 0) rfl rfl rfl rfl rfl rfl) rfl rfl (kk_wl ?_))
            obtain ⟨x60, hx60, h⟩ := bd h
            refine wl_g rfl rfl (ow_cV rfl hb10 rfl (fun w hw => c_laws_sameFlow N _ _ _ hx60 w (Lay.at_ hz3 hw) (Lay.at_ hz4 hw)) rfl rfl (kk_wl ?_))
            refine wl_u rfl (ow_y (yh_pickT rfl rfl rfl) rfl rfl (kk_wl ?_))
            refine wl_u rfl (ow_y (yh_assign rfl rfl) rfl rfl (kk_wl ?_))
            refine wl_nil ?_
            refine ex_seq ?_
            refine cw_ret ?_
            refine ex_then_ret ?_
            obtain rfl := Option.some.inj h
            exact ex_r1 Tb rfl (.tmp rfl) (fun wq hq => ⟨_, rfl, (hB4.back hq).ext, rfl⟩)
          · skip
            replace h := bf cc6 h
            refine wl_n rfl rfl rfl rfl ?_
            refine wl_n rfl rfl rfl rfl ?_
            refine wl_n rfl rfl rfl rfl ?_
            refine wl_u rfl (ow_y (yh_pickF rfl rfl rfl) rfl rfl (kk_wl ?_))
            refine wl_u rfl (ow_y (yh_assign rfl rfl) rfl rfl (kk_wl ?_))
            refine wl_nil ?_
            refine ex_seq ?_
            refine cw_ret ?_
            refine ex_then_ret ?_
            obtain rfl := Option.some.inj h
            exact ex_r1 Tb rfl (.tmp rfl) (fun wq hq => ⟨_, rfl, (hB4.back hq).ext, rfl⟩)
        · skip
          replace h := bf cc5 h
          refine wl_g rfl rfl (ow_y (yh_move rfl rfl) rfl rfl (kk_wl ?_))
          refine wl_g rfl rfl (ow_y (yh_not rfl rfl) rfl rfl (kk_wl ?_))
          refine wl_u rfl (ow_y (yh_pickF rfl rfl rfl) rfl rfl (kk_wl ?_))
          refine wl_nil ?_
          refine ex_seq ?_
          refine cw_split rfl (fun cc7 => ?_) (fun cc7 => ?_)
          · skip
            replace h := bt cc7 h
            refine cw_seq ?_
            refine cw_region ?_
            refine wl_u rfl (ow_y (yh_move rfl rfl) rfl rfl (kk_wl ?_))
            refine wl_u rfl (ow_y (yh_move rfl rfl) rfl rfl (kk_wl ?_))
            refine wl_u rfl (ow_y (yh_cmpB rfl rfl rfl rfl (by kernel_rfl)) rfl rfl (kk_wl ?_))
            refine wl_u rfl (ow_y (yh_move rfl rfl) rfl rfl (kk_wl ?_))
            refine wl_s rfl rfl (fun cc8 => ?_) (fun cc8 => ?_)
            · skip
              replace h := bt cc8 h
              refine wl_g rfl rfl (ow_y (yh_loadBA Tb (k := 1) rfl rfl rfl rfl rfl rfl) rfl rfl (kk_wl ?_))
              refine wl_g rfl rfl (ow_y (yh_loadBA Tb (k := 0) rfl rfl rfl rfl rfl rfl) rfl rfl (kk_wl ?_))
              obtain ⟨x60, hx60, h⟩ := bd h
              refine wl_g rfl rfl (ow_cV rfl hb10 rfl (fun w hw => c_laws_sameFlow N _ _ _ hx60 w (Lay.at_ hz3 hw) (Lay.at_ hz4 hw)) rfl rfl (kk_wl ?_))
              refine wl_u rfl (ow_y (yh_pickT rfl rfl rfl) rfl rfl (kk_wl ?_))
              refine wl_u rfl (ow_y (yh_assign rfl rfl) rfl rfl (kk_wl ?_))
              refine wl_nil ?_
              refine ex_seq ?_
              refine cw_ret ?_
              refine ex_then_ret ?_
              obtain rfl := Option.some.inj h
              exact ex_r1 Tb rfl (.tmp rfl) (fun wq hq => ⟨_, rfl, (hB4.back hq).ext, rfl⟩)
            · skip
              replace h := bf cc8 h
              refine wl_n rfl rfl rfl rfl ?_
              refine wl_n rfl rfl rfl rfl ?_
              refine wl_n rfl rfl rfl rfl ?_
              refine wl_u rfl (ow_y (yh_pickF rfl rfl rfl) rfl rfl (kk_wl ?_))
              refine wl_u rfl (ow_y (yh_assign rfl rfl) rfl rfl (kk_wl ?_))
              refine wl_nil ?_
              refine ex_seq ?_
              refine cw_ret ?_
              refine ex_then_ret ?_
              obtain rfl := Option.some.inj h
              exact ex_r1 Tb rfl (.tmp rfl) (fun wq hq => ⟨_, rfl, (hB4.back hq).ext, rfl⟩)
          · skip
            replace h := bf cc7 h
            refine cw_skip ?_
            refine ex_seq ?_
            refine cw_seq ?_
            refine cw_region ?_
            refine wl_u rfl (ow_y (yh_move rfl rfl) rfl rfl (kk_wl ?_))
            refine wl_u rfl (ow_y (yh_lenS Tb rfl rfl rfl rfl) rfl rfl (kk_wl ?_))
            refine wl_u rfl (ow_y (yh_move rfl rfl) rfl rfl (kk_wl ?_))
            refine wl_u rfl (ow_y (yh_lenS Tb rfl rfl rfl rfl) rfl rfl (kk_wl ?_))
            obtain ⟨v66_, hv66_, h⟩ := bd h
            have mv66_ := lsz_some hv66_
            refine wl_u rfl (ow_y (yh_arI rfl rfl rfl rfl (by omega)) rfl rfl (kk_wl ?_))
            refine wl_u rfl (ow_y (yh_rem u1.length (x26.2.length + 1) rfl rfl rfl rfl rfl (by omega)) rfl rfl (kk_wl ?_))
            refine wl_u rfl (ow_y (yh_assign rfl rfl) rfl rfl (kk_wl ?_))
            refine wl_nil ?_
            refine ex_seq ?_
            refine cw_seq ?_
            refine cw_dr [0, 1, 2, 3, 5, 6, 7, 10] [] [blkC g9 25 [.int .i64 x38.1.ver, .slice a38 x38.1.steps.length c38], blkC g7 25 [.int .i64 x32.1.ver, .slice a32 x32.1.steps.length c32], blkC g5 25 [.int .i64 x26.1.ver, .slice a26 x26.1.steps.length c26]] (by kernel_rfl) ?_
            refine wd_take (i := 0) [0, 1, 2] rfl rfl rfl rfl rfl (by kernel_rfl) (by kernel_rfl) (fun _ _ _ _ h => h) (yh_loadBA Tb (k := 2) rfl rfl rfl rfl rfl rfl) ?_
            refine wd_take (i := 1) [0, 1, 2] rfl rfl rfl rfl rfl (by kernel_rfl) (by kernel_rfl) (fun _ _ _ _ h => h) (yh_move rfl rfl) ?_
            refine wd_take (i := 2) [0, 1, 2] rfl rfl rfl rfl rfl (by kernel_rfl) (by kernel_rfl) (fun _ _ _ _ h => h) (yh_move rfl rfl) ?_
            obtain ⟨l72, zl72, h⟩ := bd h
            obtain ⟨il72, jl72⟩ := slTo_K zl72
            have hf72 := sl_takeK hz2 zl72
            have mx72 := rd_max hf72
            refine wd_take (i := 3) [0, 1, 2] rfl rfl rfl rfl rfl (by kernel_rfl) (by kernel_rfl) (fun _ _ _ _ h => h) (yh_sliceH Tb (k := l72.length) rfl rfl rfl il72 (Nat.le_trans jl72 (rd_cap hz2)) rfl rfl) ?_
            refine wd_all [4, 8] (by kernel_rfl) (by simp) (fun i hi => ?_)
            simp only [List.mem_cons, List.not_mem_nil, or_false] at hi
            rcases hi with rfl | rfl
            · refine ⟨_, rfl, rfl, ?_⟩
              obtain ⟨x73, hx73, h⟩ := bd h
              refine (ow_cN1 rfl hb17 rfl (fun w hw => c_impl_FlowChanges N _ _ _ hx73 w (Lay.at_ hz1 hw) (Lay.at_ hf72 hw)) rfl rfl (fun a73 c73 F73 => kk_wd [1, 2, 3] (by kernel_rfl) ?_))
              refine wd_take (i := 5) [1, 2, 3] rfl rfl rfl rfl rfl (by kernel_rfl) (by kernel_rfl) (fun _ _ _ _ h => h) (yh_move rfl rfl) ?_
              refine wd_take (i := 6) [1, 2, 3] rfl rfl rfl rfl rfl (by kernel_rfl) (by kernel_rfl) (fun _ _ _ _ h => h) (yh_extract rfl rfl rfl) ?_
              refine wd_take (i := 7) [1, 2, 3] rfl rfl rfl rfl rfl (by kernel_rfl) (by kernel_rfl) (fun _ _ _ _ h => h) (yh_extract rfl rfl rfl) ?_
              refine wd_one 8 rfl rfl (by kernel_rfl) (ow_allocA Tb rfl rfl rfl rfl (fun g12 => kk_wd [2, 3, 4] (by kernel_rfl) ?_))
              refine wd_one 9 rfl rfl (by kernel_rfl) (ow_storeA Tb (k := 0) rfl rfl rfl rfl rfl rfl rfl rfl rfl (kk_wd [2, 3, 4] (by kernel_rfl) ?_))
              refine wd_take (i := 10) [2, 3, 4] rfl rfl rfl rfl rfl (by kernel_rfl) (by kernel_rfl) (fun _ _ _ _ h => h) (yh_assign rfl rfl) ?_
              refine wd_done (by kernel_rfl) ?_
              refine ex_seq ?_
              refine cw_seq ?_
              refine cw_freeze 1 rfl (fun w5 M5 hb5_ hz5 => ?_)
              replace h_u0 := Lay.rb h_u0 hb5_
              replace h_u1 := Lay.rb h_u1 hb5_
              replace hz1 := Lay.rb hz1 hb5_
              replace hz2 := Lay.rb hz2 hb5_
              replace hz3 := Lay.rb hz3 hb5_
              replace hz4 := Lay.rb hz4 hb5_
              replace hf72 := Lay.rb hf72 hb5_
              have hB5 := hB4.trans hb5_
              have mz5 := rd_max hz5
              refine cw_dr [0, 1, 2, 3, 5, 6, 7, 10] [] [blkC g12 25 [.int .i64 x73.1.ver, .slice a73 x73.1.steps.length c73], blkC g9 25 [.int .i64 x38.1.ver, .slice a38 x38.1.steps.length c38], blkC g7 25 [.int .i64 x32.1.ver, .slice a32 x32.1.steps.length c32], blkC g5 25 [.int .i64 x26.1.ver, .slice a26 x26.1.steps.length c26]] (by kernel_rfl) ?_
              refine wd_take (i := 0) [0, 1, 2, 3] rfl rfl rfl rfl rfl (by kernel_rfl) (by kernel_rfl) (fun _ _ _ _ h => h) (yh_loadBA Tb (k := 0) rfl rfl rfl rfl rfl rfl) ?_
              refine wd_take (i := 1) [0, 1, 2, 3] rfl rfl rfl rfl rfl (by kernel_rfl) (by kernel_rfl) (fun _ _ _ _ h => h) (yh_move rfl rfl) ?_
              refine wd_take (i := 2) [0, 1, 2, 3] rfl rfl rfl rfl rfl (by kernel_rfl) (by kernel_rfl) (fun _ _ _ _ h => h) (yh_move rfl rfl) ?_
              obtain ⟨l80, zl80, h⟩ := bd h
              obtain ⟨a80, e80, va80, ve80, il80, hf80⟩ := sl_dropK hz2 zl80
              have mx80 := rd_max hf80
              refine wd_take (i := 3) [0, 1, 2, 3] rfl rfl rfl rfl rfl (by kernel_rfl) (by kernel_rfl) (fun _ _ _ _ h => h) (yh_sliceLK Tb zl80 va80 ve80 rfl rfl rfl il80 rfl rfl) ?_
              refine wd_all [4, 8] (by kernel_rfl) (by simp) (fun i hi => ?_)
              simp only [List.mem_cons, List.not_mem_nil, or_false] at hi
              rcases hi with rfl | rfl
              · refine ⟨_, rfl, rfl, ?_⟩
                obtain ⟨x81, hx81, h⟩ := bd h
                refine (ow_cN1 rfl hb17 rfl (fun w hw => c_impl_FlowChanges N _ _ _ hx81 w (Lay.at_ hz5 hw) (Lay.at_ hf80 hw)) rfl rfl (fun a81 c81 F81 => kk_wd [1, 2, 3, 4] (by kernel_rfl) ?_))
                refine wd_take (i := 5) [1, 2, 3, 4] rfl rfl rfl rfl rfl (by kernel_rfl) (by kernel_rfl) (fun _ _ _ _ h => h) (yh_move rfl rfl) ?_
                refine wd_take (i := 6) [1, 2, 3, 4] rfl rfl rfl rfl rfl (by kernel_rfl) (by kernel_rfl) (fun _ _ _ _ h => h) (yh_extract rfl rfl rfl) ?_
                refine wd_take (i := 7) [1, 2, 3, 4] rfl rfl rfl rfl rfl (by kernel_rfl) (by kernel_rfl) (fun _ _ _ _ h => h) (yh_extract rfl rfl rfl) ?_
                refine wd_one 8 rfl rfl (by kernel_rfl) (ow_allocA Tb rfl rfl rfl rfl (fun g14 => kk_wd [2, 3, 4, 5] (by kernel_rfl) ?_))
                refine wd_one 9 rfl rfl (by kernel_rfl) (ow_storeA Tb (k := 0) rfl rfl rfl rfl rfl rfl rfl rfl rfl (kk_wd [2, 3, 4, 5] (by kernel_rfl) ?_))
                refine wd_take (i := 10) [2, 3, 4, 5] rfl rfl rfl rfl rfl (by kernel_rfl) (by kernel_rfl) (fun _ _ _ _ h => h) (yh_assign rfl rfl) ?_
                refine wd_done (by kernel_rfl) ?_
                refine ex_seq ?_
                refine cw_seq ?_
                refine cw_freeze 1 rfl (fun w6 M6 hb6_ hz6 => ?_)
                replace h_u0 := Lay.rb h_u0 hb6_
                replace h_u1 := Lay.rb h_u1 hb6_
                replace hz1 := Lay.rb hz1 hb6_
                replace hz2 := Lay.rb hz2 hb6_
                replace hz3 := Lay.rb hz3 hb6_
                replace hz4 := Lay.rb hz4 hb6_
                replace hf72 := Lay.rb hf72 hb6_
                replace hz5 := Lay.rb hz5 hb6_
                replace hf80 := Lay.rb hf80 hb6_
                have hB6 := hB5.trans hb6_
                have mz6 := rd_max hz6
                refine cw_region ?_
                refine wl_u rfl (ow_y (yh_move rfl rfl) rfl rfl (kk_wl ?_))
                refine wl_u rfl (ow_y (yh_move rfl rfl) rfl rfl (kk_wl ?_))
                refine wl_s rfl rfl (fun cc9 => ?_) (fun cc9 => ?_)
                · skip
                  replace h := bt cc9 h
                  refine wl_g rfl rfl (ow_y (yh_move rfl rfl) rfl rfl (kk_wl ?_))
                  refine wl_u rfl (ow_y (yh_pickT rfl rfl rfl) rfl rfl (kk_wl ?_))
                  refine wl_u rfl (ow_y (yh_move rfl rfl) rfl rfl (kk_wl ?_))
                  refine wl_s rfl rfl (fun cc10 => ?_) (fun cc10 => ?_)
                  · skip
                    replace h := bt cc10 h
                    refine wl_g rfl rfl (ow_y (yh_loadBA Tb (k := 0) rfl rfl rfl rfl rfl rfl) rfl rfl (kk_wl ?_))
                    refine wl_g rfl rfl (ow_y (yh_loadBA Tb (k := 3) rfl rfl rfl rfl rfl rfl) rfl rfl (kk_wl ?_))
                    obtain ⟨x91, hx91, h⟩ := bd h
                    refine wl_g rfl rfl (ow_cV rfl hb10 rfl (fun w hw => c_laws_sameFlow N _ _ _ hx91 w (Lay.at_ hz6 hw) (Lay.at_ hz3 hw)) rfl rfl (kk_wl ?_))
                    refine wl_u rfl (ow_y (yh_pickT rfl rfl rfl) rfl rfl (kk_wl ?_))
                    refine wl_u rfl (ow_y (yh_move rfl rfl) rfl rfl (kk_wl ?_))
                    refine wl_s rfl rfl (fun cc11 => ?_) (fun cc11 => ?_)
                    · skip
                      replace h := bt cc11 h
                      refine wl_g rfl rfl (ow_y (yh_field Tb rfl rfl rfl) rfl rfl (kk_wl ?_))
                      refine wl_g rfl rfl (ow_y (yh_loadB Tb (k := 3) rfl rfl rfl rfl rfl) rfl rfl (kk_wl ?_))
                      refine wl_g rfl rfl (ow_y (yh_field Tb rfl rfl rfl) rfl rfl (kk_wl ?_))
                      refine wl_g rfl rfl (ow_y (yh_loadB Tb (k := 4) rfl rfl rfl rfl rfl) rfl rfl (kk_wl ?_))
                      refine wl_g rfl rfl (ow_y (yh_move rfl rfl) rfl rfl (kk_wl ?_))
                      refine wl_g rfl rfl (ow_y (yh_lenS Tb rfl rfl rfl rfl) rfl rfl (kk_wl ?_))
                      refine wl_g rfl rfl (ow_y (yh_arW rfl rfl rfl rfl) rfl rfl (kk_wl ?_))
                      refine wl_g rfl rfl (ow_y (yh_cmpI rfl rfl rfl rfl) rfl rfl (kk_wl ?_))
                      refine wl_u rfl (ow_y (yh_pickT rfl rfl rfl) rfl rfl (kk_wl ?_))
                      refine wl_u rfl (ow_y (yh_assign rfl rfl) rfl rfl (kk_wl ?_))
                      refine wl_nil ?_
                      refine ex_seq ?_
                      refine cw_ret ?_
                      obtain rfl := Option.some.inj h
                      exact ex_r1 Tb rfl (.tmp rfl) (fun wq hq => ⟨_, rfl, (hB6.back hq).ext, rfl⟩)
                    · skip
                      replace h := bf cc11 h
                      refine wl_n rfl rfl rfl rfl ?_
                      refine wl_n rfl rfl rfl rfl ?_
                      refine wl_n rfl rfl rfl rfl ?_
                      refine wl_n rfl rfl rfl rfl ?_
                      refine wl_n rfl rfl rfl rfl ?_
                      refine wl_n rfl rfl rfl rfl ?_
                      refine wl_n rfl rfl rfl rfl ?_
                      refine wl_n rfl rfl rfl rfl ?_
                      refine wl_u rfl (ow_y (yh_pickF rfl rfl rfl) rfl rfl (kk_wl ?_))
                      refine wl_u rfl (ow_y (yh_assign rfl rfl) rfl rfl (kk_wl ?_))
                      refine wl_nil ?_
                      refine ex_seq ?_
                      refine cw_ret ?_
                      obtain rfl := Option.some.inj h
                      exact ex_r1 Tb rfl (.tmp rfl) (fun wq hq => ⟨_, rfl, (hB6.back hq).ext, rfl⟩)
                  · skip
                    replace h := bf cc10 h
                    refine wl_n rfl rfl rfl rfl ?_
                    refine wl_n rfl rfl rfl rfl ?_
                    refine wl_n rfl rfl rfl rfl ?_
                    refine wl_u rfl (ow_y (yh_pickF rfl rfl rfl) rfl rfl (kk_wl ?_))
                    refine wl_u rfl (ow_y (yh_move rfl rfl) rfl rfl (kk_wl ?_))
                    refine wl_s rfl rfl nofun (fun _ => ?_)
                    refine wl_n rfl rfl rfl rfl ?_
                    refine wl_n rfl rfl rfl rfl ?_
                    refine wl_n rfl rfl rfl rfl ?_
                    refine wl_n rfl rfl rfl rfl ?_
                    refine wl_n rfl rfl rfl rfl ?_
                    refine wl_n rfl rfl rfl rfl ?_
                    refine wl_n rfl rfl rfl rfl ?_
                    refine wl_n rfl rfl rfl rfl ?_
                    refine wl_u rfl (ow_y (yh_pickF rfl rfl rfl) rfl rfl (kk_wl ?_))
                    refine wl_u rfl (ow_y (yh_assign rfl rfl) rfl rfl (kk_wl ?_))
                    refine wl_nil ?_
                    refine ex_seq ?_
                    refine cw_ret ?_
                    obtain rfl := Option.some.inj h
                    exact ex_r1 Tb rfl (.tmp rfl) (fun wq hq => ⟨_, rfl, (hB6.back hq).ext, rfl⟩)
                · skip
                  replace h := bf cc9 h
                  refine wl_n rfl rfl rfl rfl ?_
                  refine wl_u rfl (ow_y (yh_pickF rfl rfl rfl) rfl rfl (kk_wl ?_))
                  refine wl_u rfl (ow_y (yh_move rfl rfl) rfl rfl (kk_wl ?_))
                  refine wl_s rfl rfl nofun (fun _ => ?_)
                  refine wl_n rfl rfl rfl rfl ?_
                  refine wl_n rfl rfl rfl rfl ?_
                  refine wl_n rfl rfl rfl rfl ?_
                  refine wl_u rfl (ow_y (yh_pickF rfl rfl rfl) rfl rfl (kk_wl ?_))
                  refine wl_u rfl (ow_y (yh_move rfl rfl) rfl rfl (kk_wl ?_))
                  refine wl_s rfl rfl nofun (fun _ => ?_)
                  refine wl_n rfl rfl rfl rfl ?_
                  refine wl_n rfl rfl rfl rfl ?_
                  refine wl_n rfl rfl rfl rfl ?_
                  refine wl_n rfl rfl rfl rfl ?_
                  refine wl_n rfl rfl rfl rfl ?_
                  refine wl_n rfl rfl rfl rfl ?_
                  refine wl_n rfl rfl rfl rfl ?_
                  refine wl_n rfl rfl rfl rfl ?_
                  refine wl_u rfl (ow_y (yh_pickF rfl rfl rfl) rfl rfl (kk_wl ?_))
                  refine wl_u rfl (ow_y (yh_assign rfl rfl) rfl rfl (kk_wl ?_))
                  refine wl_nil ?_
                  refine ex_seq ?_
                  refine cw_ret ?_
                  obtain rfl := Option.some.inj h
                  exact ex_r1 Tb rfl (.tmp rfl) (fun wq hq => ⟨_, rfl, (hB6.back hq).ext, rfl⟩)
              · refine ⟨_, rfl, rfl, ?_⟩
                refine (ow_allocA Tb rfl rfl rfl rfl (fun g14 => kk_wd [1, 2, 3, 4] (by kernel_rfl) ?_))
                obtain ⟨x81, hx81, h⟩ := bd h
                refine wd_one 4 rfl rfl (by kernel_rfl) (ow_cN1 rfl hb17 rfl (fun w hw => c_impl_FlowChanges N _ _ _ hx81 w (Lay.at_ hz5 hw) (Lay.at_ hf80 hw)) rfl rfl (fun a81 c81 F81 => kk_wd [2, 3, 4, 5] (by kernel_rfl) ?_))
                refine wd_take (i := 5) [2, 3, 4, 5] rfl rfl rfl rfl rfl (by kernel_rfl) (by kernel_rfl) (fun _ _ _ _ h => h) (yh_move rfl rfl) ?_
                refine wd_take (i := 6) [2, 3, 4, 5] rfl rfl rfl rfl rfl (by kernel_rfl) (by kernel_rfl) (fun _ _ _ _ h => h) (yh_extract rfl rfl rfl) ?_
                refine wd_take (i := 7) [2, 3, 4, 5] rfl rfl rfl rfl rfl (by kernel_rfl) (by kernel_rfl) (fun _ _ _ _ h => h) (yh_extract rfl rfl rfl) ?_
                refine wd_one 9 rfl rfl (by kernel_rfl) (ow_storeA Tb (k := 1) rfl rfl rfl rfl rfl rfl rfl rfl rfl (kk_wd [2, 3, 4, 5] (by kernel_rfl) ?_))
                refine wd_take (i := 10) [2, 3, 4, 5] rfl rfl rfl rfl rfl (by kernel_rfl) (by kernel_rfl) (fun _ _ _ _ h => h) (yh_assign rfl rfl) ?_
                refine wd_done (by kernel_rfl) ?_
                refine ex_seq ?_
                refine cw_seq ?_
                refine cw_freeze 1 rfl (fun w7 M7 hb7_ hz7 => ?_)
                replace h_u0 := Lay.rb h_u0 hb7_
                replace h_u1 := Lay.rb h_u1 hb7_
                replace hz1 := Lay.rb hz1 hb7_
                replace hz2 := Lay.rb hz2 hb7_
                replace hz3 := Lay.rb hz3 hb7_
                replace hz4 := Lay.rb hz4 hb7_
                replace hf72 := Lay.rb hf72 hb7_
                replace hz5 := Lay.rb hz5 hb7_
                replace hf80 := Lay.rb hf80 hb7_
                have hB7 := hB5.trans hb7_
                have mz7 := rd_max hz7
                refine cw_region ?_
                refine wl_u rfl (ow_y (yh_move rfl rfl) rfl rfl (kk_wl ?_))
                refine wl_u rfl (ow_y (yh_move rfl rfl) rfl rfl (kk_wl ?_))
                refine wl_s rfl rfl (fun cc12 => ?_) (fun cc12 => ?_)
                · skip
                  replace h := bt cc12 h
                  refine wl_g rfl rfl (ow_y (yh_move rfl rfl) rfl rfl (kk_wl ?_))
                  refine wl_u rfl (ow_y (yh_pickT rfl rfl rfl) rfl rfl (kk_wl ?_))
                  refine wl_u rfl (ow_y (yh_move rfl rfl) rfl rfl (kk_wl ?_))
                  refine wl_s rfl rfl (fun cc13 => ?_) (fun cc13 => ?_)
                  · skip
                    replace h := bt cc13 h
                    refine wl_g rfl rfl (ow_y (yh_loadBA Tb (k := 0) rfl rfl rfl rfl rfl rfl) rfl rfl (kk_wl ?_))
                    refine wl_g rfl rfl (ow_y (yh_loadBA Tb (k := 3) rfl rfl rfl rfl rfl rfl) rfl rfl (kk_wl ?_))
                    obtain ⟨x91, hx91, h⟩ := bd h
                    refine wl_g rfl rfl (ow_cV rfl hb10 rfl (fun w hw => c_laws_sameFlow N _ _ _ hx91 w (Lay.at_ hz7 hw) (Lay.at_ hz3 hw)) rfl rfl (kk_wl ?_))
                    refine wl_u rfl (ow_y (yh_pickT rfl rfl rfl) rfl rfl (kk_wl ?_))
                    refine wl_u rfl (ow_y (yh_move rfl rfl) rfl rfl (kk_wl ?_))
                    refine wl_s rfl rfl (fun cc14 => ?_) (fun cc14 => ?_)
                    · skip
                      replace h := bt cc14 h
                      refine wl_g rfl rfl (ow_y (yh_field Tb rfl rfl rfl) rfl rfl (kk_wl ?_))
                      refine wl_g rfl rfl (ow_y (yh_loadB Tb (k := 3) rfl rfl rfl rfl rfl) rfl rfl (kk_wl ?_))
                      refine wl_g rfl rfl (ow_y (yh_field Tb rfl rfl rfl) rfl rfl (kk_wl ?_))
                      refine wl_g rfl rfl (ow_y (yh_loadB Tb (k := 4) rfl rfl rfl rfl rfl) rfl rfl (kk_wl ?_))
                      refine wl_g rfl rfl (ow_y (yh_move rfl rfl) rfl rfl (kk_wl ?_))
                      refine wl_g rfl rfl (ow_y (yh_lenS Tb rfl rfl rfl rfl) rfl rfl (kk_wl ?_))
                      refine wl_g rfl rfl (ow_y (yh_arW rfl rfl rfl rfl) rfl rfl (kk_wl ?_))
                      refine wl_g rfl rfl (ow_y (yh_cmpI rfl rfl rfl rfl) rfl rfl (kk_wl ?_))
                      refine wl_u rfl (ow_y (yh_pickT rfl rfl rfl) rfl rfl (kk_wl ?_))
                      refine wl_u rfl (ow_y (yh_assign rfl rfl) rfl rfl (kk_wl ?_))
                      refine wl_nil ?_
                      refine ex_seq ?_
                      refine cw_ret ?_
                      obtain rfl := Option.some.inj h
                      exact ex_r1 Tb rfl (.tmp rfl) (fun wq hq => ⟨_, rfl, (hB7.back hq).ext, rfl⟩)
                    · skip
                      replace h := bf cc14 h
                      refine wl_n rfl rfl rfl rfl ?_
                      refine wl_n rfl rfl rfl rfl ?_
                      refine wl_n rfl rfl rfl rfl ?_
                      refine wl_n rfl rfl rfl rfl ?_
                      refine wl_n rfl rfl rfl rfl ?_
                      refine wl_n rfl rfl rfl rfl ?_
                      refine wl_n rfl rfl rfl rfl ?_
                      refine wl_n rfl rfl rfl rfl ?_
                      refine wl_u rfl (ow_y (yh_pickF rfl rfl rfl) rfl rfl (kk_wl ?_))
                      refine wl_u rfl (ow_y (yh_assign rfl rfl) rfl rfl (kk_wl ?_))
                      refine wl_nil ?_
                      refine ex_seq ?_
                      refine cw_ret ?_
                      obtain rfl := Option.some.inj h
                      exact ex_r1 Tb rfl (.tmp rfl) (fun wq hq => ⟨_, rfl, (hB7.back hq).ext, rfl⟩)
                  · skip
                    replace h := bf cc13 h
                    refine wl_n rfl rfl rfl rfl ?_
                    refine wl_n rfl rfl rfl rfl ?_
                    refine wl_n rfl rfl rfl rfl ?_
                    refine wl_u rfl (ow_y (yh_pickF rfl rfl rfl) rfl rfl (kk_wl ?_))
                    refine wl_u rfl (ow_y (yh_move rfl rfl) rfl rfl (kk_wl ?_))
                    refine wl_s rfl rfl nofun (fun _ => ?_)
                    refine wl_n rfl rfl rfl rfl ?_
                    refine wl_n rfl rfl rfl rfl ?_
                    refine wl_n rfl rfl rfl rfl ?_
                    refine wl_n rfl rfl rfl rfl ?_
                    refine wl_n rfl rfl rfl rfl ?_
                    refine wl_n rfl rfl rfl rfl ?_
                    refine wl_n rfl rfl rfl rfl ?_
                    refine wl_n rfl rfl rfl rfl ?_
                    refine wl_u rfl (ow_y (yh_pickF rfl rfl rfl) rfl rfl (kk_wl ?_))
                    refine wl_u rfl (ow_y (yh_assign rfl rfl) rfl rfl (kk_wl ?_))
                    refine wl_nil ?_
                    refine ex_seq ?_
                    refine cw_ret ?_
                    obtain rfl := Option.some.inj h
                    exact ex_r1 Tb rfl (.tmp rfl) (fun wq hq => ⟨_, rfl, (hB7.back hq).ext, rfl⟩)
                · skip
                  replace h := bf cc12 h
                  refine wl_n rfl rfl rfl rfl ?_
                  refine wl_u rfl (ow_y (yh_pickF rfl rfl rfl) rfl rfl (kk_wl ?_))
                  refine wl_u rfl (ow_y (yh_move rfl rfl) rfl rfl (kk_wl ?_))
                  refine wl_s rfl rfl nofun (fun _ => ?_)
                  refine wl_n rfl rfl rfl rfl ?_
                  refine wl_n rfl rfl rfl rfl ?_
                  refine wl_n rfl rfl rfl rfl ?_
                  refine wl_u rfl (ow_y (yh_pickF rfl rfl rfl) rfl rfl (kk_wl ?_))
                  refine wl_u rfl (ow_y (yh_move rfl rfl) rfl rfl (kk_wl ?_))
                  refine wl_s rfl rfl nofun (fun _ => ?_)
                  refine wl_n rfl rfl rfl rfl ?_
                  refine wl_n rfl rfl rfl rfl ?_
                  refine wl_n rfl rfl rfl rfl ?_
                  refine wl_n rfl rfl rfl rfl ?_
                  refine wl_n rfl rfl rfl rfl ?_
                  refine wl_n rfl rfl rfl rfl ?_
                  refine wl_n rfl rfl rfl rfl ?_
                  refine wl_n rfl rfl rfl rfl ?_
                  refine wl_u rfl (ow_y (yh_pickF rfl rfl rfl) rfl rfl (kk_wl ?_))
                  refine wl_u rfl (ow_y (yh_assign rfl rfl) rfl rfl (kk_wl ?_))
                  refine wl_nil ?_
                  refine ex_seq ?_
                  refine cw_ret ?_
                  obtain rfl := Option.some.inj h
                  exact ex_r1 Tb rfl (.tmp rfl) (fun wq hq => ⟨_, rfl, (hB7.back hq).ext, rfl⟩)
            · refine ⟨_, rfl, rfl, ?_⟩
              refine (ow_allocA Tb rfl rfl rfl rfl (fun g12 => kk_wd [1, 2, 3] (by kernel_rfl) ?_))
              obtain ⟨x73, hx73, h⟩ := bd h
              refine wd_one 4 rfl rfl (by kernel_rfl) (ow_cN1 rfl hb17 rfl (fun w hw => c_impl_FlowChanges N _ _ _ hx73 w (Lay.at_ hz1 hw) (Lay.at_ hf72 hw)) rfl rfl (fun a73 c73 F73 => kk_wd [2, 3, 4] (by kernel_rfl) ?_))
              refine wd_take (i := 5) [2, 3, 4] rfl rfl rfl rfl rfl (by kernel_rfl) (by kernel_rfl) (fun _ _ _ _ h => h) (yh_move rfl rfl) ?_
              refine wd_take (i := 6) [2, 3, 4] rfl rfl rfl rfl rfl (by kernel_rfl) (by kernel_rfl) (fun _ _ _ _ h => h) (yh_extract rfl rfl rfl) ?_
              refine wd_take (i := 7) [2, 3, 4] rfl rfl rfl rfl rfl (by kernel_rfl) (by kernel_rfl) (fun _ _ _ _ h => h) (yh_extract rfl rfl rfl) ?_
              refine wd_one 9 rfl rfl (by kernel_rfl) (ow_storeA Tb (k := 1) rfl rfl rfl rfl rfl rfl rfl rfl rfl (kk_wd [2, 3, 4] (by kernel_rfl) ?_))
              refine wd_take (i := 10) [2, 3, 4] rfl rfl rfl rfl rfl (by kernel_rfl) (by kernel_rfl) (fun _ _ _ _ h => h) (yh_assign rfl rfl) ?_
              refine wd_done (by kernel_rfl) ?_
              refine ex_seq ?_
              refine cw_seq ?_
              refine cw_freeze 1 rfl (fun w8 M8 hb8_ hz8 => ?_)
              replace h_u0 := Lay.rb h_u0 hb8_
              replace h_u1 := Lay.rb h_u1 hb8_
              replace hz1 := Lay.rb hz1 hb8_
              replace hz2 := Lay.rb hz2 hb8_
              replace hz3 := Lay.rb hz3 hb8_
              replace hz4 := Lay.rb hz4 hb8_
              replace hf72 := Lay.rb hf72 hb8_
              have hB8 := hB4.trans hb8_
              have mz8 := rd_max hz8
              refine cw_dr [0, 1, 2, 3, 5, 6, 7, 10] [] [blkC g12 25 [.int .i64 x73.1.ver, .slice a73 x73.1.steps.length c73], blkC g9 25 [.int .i64 x38.1.ver, .slice a38 x38.1.steps.length c38], blkC g7 25 [.int .i64 x32.1.ver, .slice a32 x32.1.steps.length c32], blkC g5 25 [.int .i64 x26.1.ver, .slice a26 x26.1.steps.length c26]] (by kernel_rfl) ?_
              refine wd_take (i := 0) [0, 1, 2, 3] rfl rfl rfl rfl rfl (by kernel_rfl) (by kernel_rfl) (fun _ _ _ _ h => h) (yh_loadBA Tb (k := 0) rfl rfl rfl rfl rfl rfl) ?_
              refine wd_take (i := 1) [0, 1, 2, 3] rfl rfl rfl rfl rfl (by kernel_rfl) (by kernel_rfl) (fun _ _ _ _ h => h) (yh_move rfl rfl) ?_
              refine wd_take (i := 2) [0, 1, 2, 3] rfl rfl rfl rfl rfl (by kernel_rfl) (by kernel_rfl) (fun _ _ _ _ h => h) (yh_move rfl rfl) ?_
              obtain ⟨l80, zl80, h⟩ := bd h
              obtain ⟨a80, e80, va80, ve80, il80, hf80⟩ := sl_dropK hz2 zl80
              have mx80 := rd_max hf80
              refine wd_take (i := 3) [0, 1, 2, 3] rfl rfl rfl rfl rfl (by kernel_rfl) (by kernel_rfl) (fun _ _ _ _ h => h) (yh_sliceLK Tb zl80 va80 ve80 rfl rfl rfl il80 rfl rfl) ?_
              refine wd_all [4, 8] (by kernel_rfl) (by simp) (fun i hi => ?_)
              simp only [List.mem_cons, List.not_mem_nil, or_false] at hi
              rcases hi with rfl | rfl
              · refine ⟨_, rfl, rfl, ?_⟩
                obtain ⟨x81, hx81, h⟩ := bd h
                refine (ow_cN1 rfl hb17 rfl (fun w hw => c_impl_FlowChanges N _ _ _ hx81 w (Lay.at_ hz8 hw) (Lay.at_ hf80 hw)) rfl rfl (fun a81 c81 F81 => kk_wd [1, 2, 3, 4] (by kernel_rfl) ?_))
                refine wd_take (i := 5) [1, 2, 3, 4] rfl rfl rfl rfl rfl (by kernel_rfl) (by kernel_rfl) (fun _ _ _ _ h => h) (yh_move rfl rfl) ?_
                refine wd_take (i := 6) [1, 2, 3, 4] rfl rfl rfl rfl rfl (by kernel_rfl) (by kernel_rfl) (fun _ _ _ _ h => h) (yh_extract rfl rfl rfl) ?_
                refine wd_take (i := 7) [1, 2, 3, 4] rfl rfl rfl rfl rfl (by kernel_rfl) (by kernel_rfl) (fun _ _ _ _ h => h) (yh_extract rfl rfl rfl) ?_
                refine wd_one 8 rfl rfl (by kernel_rfl) (ow_allocA Tb rfl rfl rfl rfl (fun g14 => kk_wd [2, 3, 4, 5] (by kernel_rfl) ?_))
                refine wd_one 9 rfl rfl (by kernel_rfl) (ow_storeA Tb (k := 0) rfl rfl rfl rfl rfl rfl rfl rfl rfl (kk_wd [2, 3, 4, 5] (by kernel_rfl) ?_))
                refine wd_take (i := 10) [2, 3, 4, 5] rfl rfl rfl rfl rfl (by kernel_rfl) (by kernel_rfl) (fun _ _ _ _ h => h) (yh_assign rfl rfl) ?_
                refine wd_done (by kernel_rfl) ?_
                refine ex_seq ?_
                refine cw_seq ?_
                refine cw_freeze 1 rfl (fun w9 M9 hb9_ hz9 => ?_)
                replace h_u0 := Lay.rb h_u0 hb9_
                replace h_u1 := Lay.rb h_u1 hb9_
                replace hz1 := Lay.rb hz1 hb9_
                replace hz2 := Lay.rb hz2 hb9_
                replace hz3 := Lay.rb hz3 hb9_
                replace hz4 := Lay.rb hz4 hb9_
                replace hf72 := Lay.rb hf72 hb9_
                replace hz8 := Lay.rb hz8 hb9_
                replace hf80 := Lay.rb hf80 hb9_
                have hB9 := hB8.trans hb9_
                have mz9 := rd_max hz9
                refine cw_region ?_
                refine wl_u rfl (ow_y (yh_move rfl rfl) rfl rfl (kk_wl ?_))
                refine wl_u rfl (ow_y (yh_move rfl rfl) rfl rfl (kk_wl ?_))
                refine wl_s rfl rfl (fun cc15 => ?_) (fun cc15 => ?_)
                · skip
                  replace h := bt cc15 h
                  refine wl_g rfl rfl (ow_y (yh_move rfl rfl) rfl rfl (kk_wl ?_))
                  refine wl_u rfl (ow_y (yh_pickT rfl rfl rfl) rfl rfl (kk_wl ?_))
                  refine wl_u rfl (ow_y (yh_move rfl rfl) rfl rfl (kk_wl ?_))
                  refine wl_s rfl rfl (fun cc16 => ?_) (fun cc16 => ?_)
                  · skip
                    replace h := bt cc16 h
                    refine wl_g rfl rfl (ow_y (yh_loadBA Tb (k := 0) rfl rfl rfl rfl rfl rfl) rfl rfl (kk_wl ?_))
                    refine wl_g rfl rfl (ow_y (yh_loadBA Tb (k := 3) rfl rfl rfl rfl rfl rfl) rfl rfl (kk_wl ?_))
                    obtain ⟨x91, hx91, h⟩ := bd h
                    refine wl_g rfl rfl (ow_cV rfl hb10 rfl (fun w hw => c_laws_sameFlow N _ _ _ hx91 w (Lay.at_ hz9 hw) (Lay.at_ hz3 hw)) rfl rfl (kk_wl ?_))
                    refine wl_u rfl (ow_y (yh_pickT rfl rfl rfl) rfl rfl (kk_wl ?_))
                    refine wl_u rfl (ow_y (yh_move rfl rfl) rfl rfl (kk_wl ?_))
                    refine wl_s rfl rfl (fun cc17 => ?_) (fun cc17 => ?_)
                    · skip
                      replace h := bt cc17 h
                      refine wl_g rfl rfl (ow_y (yh_field Tb rfl rfl rfl) rfl rfl (kk_wl ?_))
                      refine wl_g rfl rfl (ow_y (yh_loadB Tb (k := 3) rfl rfl rfl rfl rfl) rfl rfl (kk_wl ?_))
                      refine wl_g rfl rfl (ow_y (yh_field Tb rfl rfl rfl) rfl rfl (kk_wl ?_))
                      refine wl_g rfl rfl (ow_y (yh_loadB Tb (k := 4) rfl rfl rfl rfl rfl) rfl rfl (kk_wl ?_))
                      refine wl_g rfl rfl (ow_y (yh_move rfl rfl) rfl rfl (kk_wl ?_))
                      refine wl_g rfl rfl (ow_y (yh_lenS Tb rfl rfl rfl rfl) rfl rfl (kk_wl ?_))
                      refine wl_g rfl rfl (ow_y (yh_arW rfl rfl rfl rfl) rfl rfl (kk_wl ?_))
                      refine wl_g rfl rfl (ow_y (yh_cmpI rfl rfl rfl rfl) rfl rfl (kk_wl ?_))
                      refine wl_u rfl (ow_y (yh_pickT rfl rfl rfl) rfl rfl (kk_wl ?_))
                      refine wl_u rfl (ow_y (yh_assign rfl rfl) rfl rfl (kk_wl ?_))
                      refine wl_nil ?_
                      refine ex_seq ?_
                      refine cw_ret ?_
                      obtain rfl := Option.some.inj h
                      exact ex_r1 Tb rfl (.tmp rfl) (fun wq hq => ⟨_, rfl, (hB9.back hq).ext, rfl⟩)
                    · skip
                      replace h := bf cc17 h
                      refine wl_n rfl rfl rfl rfl ?_
                      refine wl_n rfl rfl rfl rfl ?_
                      refine wl_n rfl rfl rfl rfl ?_
                      refine wl_n rfl rfl rfl rfl ?_
                      refine wl_n rfl rfl rfl rfl ?_
                      refine wl_n rfl rfl rfl rfl ?_
                      refine wl_n rfl rfl rfl rfl ?_
                      refine wl_n rfl rfl rfl rfl ?_
                      refine wl_u rfl (ow_y (yh_pickF rfl rfl rfl) rfl rfl (kk_wl ?_))
                      refine wl_u rfl (ow_y (yh_assign rfl rfl) rfl rfl (kk_wl ?_))
                      refine wl_nil ?_
                      refine ex_seq ?_
                      refine cw_ret ?_
                      obtain rfl := Option.some.inj h
                      exact ex_r1 Tb rfl (.tmp rfl) (fun wq hq => ⟨_, rfl, (hB9.back hq).ext, rfl⟩)
                  · skip
                    replace h := bf cc16 h
                    refine wl_n rfl rfl rfl rfl ?_
                    refine wl_n rfl rfl rfl rfl ?_
                    refine wl_n rfl rfl rfl rfl ?_
                    refine wl_u rfl (ow_y (yh_pickF rfl rfl rfl) rfl rfl (kk_wl ?_))
                    refine wl_u rfl (ow_y (yh_move rfl rfl) rfl rfl (kk_wl ?_))
                    refine wl_s rfl rfl nofun (fun _ => ?_)
                    refine wl_n rfl rfl rfl rfl ?_
                    refine wl_n rfl rfl rfl rfl ?_
                    refine wl_n rfl rfl rfl rfl ?_
                    refine wl_n rfl rfl rfl rfl ?_
                    refine wl_n rfl rfl rfl rfl ?_
                    refine wl_n rfl rfl rfl rfl ?_
                    refine wl_n rfl rfl rfl rfl ?_
                    refine wl_n rfl rfl rfl rfl ?_
                    refine wl_u rfl (ow_y (yh_pickF rfl rfl rfl) rfl rfl (kk_wl ?_))
                    refine wl_u rfl (ow_y (yh_assign rfl rfl) rfl rfl (kk_wl ?_))
                    refine wl_nil ?_
                    refine ex_seq ?_
                    refine cw_ret ?_
                    obtain rfl := Option.some.inj h
                    exact ex_r1 Tb rfl (.tmp rfl) (fun wq hq => ⟨_, rfl, (hB9.back hq).ext, rfl⟩)
                · skip
                  replace h := bf cc15 h
                  refine wl_n rfl rfl rfl rfl ?_
                  refine wl_u rfl (ow_y (yh_pickF rfl rfl rfl) rfl rfl (kk_wl ?_))
                  refine wl_u rfl (ow_y (yh_move rfl rfl) rfl rfl (kk_wl ?_))
                  refine wl_s rfl rfl nofun (fun _ => ?_)
                  refine wl_n rfl rfl rfl rfl ?_
                  refine wl_n rfl rfl rfl rfl ?_
                  refine wl_n rfl rfl rfl rfl ?_
                  refine wl_u rfl (ow_y (yh_pickF rfl rfl rfl) rfl rfl (kk_wl ?_))
                  refine wl_u rfl (ow_y (yh_move rfl rfl) rfl rfl (kk_wl ?_))
                  refine wl_s rfl rfl nofun (fun _ => ?_)
                  refine wl_n rfl rfl rfl rfl ?_
                  refine wl_n rfl rfl rfl rfl ?_
                  refine wl_n rfl rfl rfl rfl ?_
                  refine wl_n rfl rfl rfl rfl ?_
                  refine wl_n rfl rfl rfl rfl ?_
                  refine wl_n rfl rfl rfl rfl ?_
                  refine wl_n rfl rfl rfl rfl ?_
                  refine wl_n rfl rfl rfl rfl ?_
                  refine wl_u rfl (ow_y (yh_pickF rfl rfl rfl) rfl rfl (kk_wl ?_))
                  refine wl_u rfl (ow_y (yh_assign rfl rfl) rfl rfl (kk_wl ?_))
                  refine wl_nil ?_
                  refine ex_seq ?_
                  refine cw_ret ?_
                  obtain rfl := Option.some.inj h
                  exact ex_r1 Tb rfl (.tmp rfl) (fun wq hq => ⟨_, rfl, (hB9.back hq).ext, rfl⟩)
              · refine ⟨_, rfl, rfl, ?_⟩
                refine (ow_allocA Tb rfl rfl rfl rfl (fun g14 => kk_wd [1, 2, 3, 4] (by kernel_rfl) ?_))
                obtain ⟨x81, hx81, h⟩ := bd h
                refine wd_one 4 rfl rfl (by kernel_rfl) (ow_cN1 rfl hb17 rfl (fun w hw => c_impl_FlowChanges N _ _ _ hx81 w (Lay.at_ hz8 hw) (Lay.at_ hf80 hw)) rfl rfl (fun a81 c81 F81 => kk_wd [2, 3, 4, 5] (by kernel_rfl) ?_))
                refine wd_take (i := 5) [2, 3, 4, 5] rfl rfl rfl rfl rfl (by kernel_rfl) (by kernel_rfl) (fun _ _ _ _ h => h) (yh_move rfl rfl) ?_
                refine wd_take (i := 6) [2, 3, 4, 5] rfl rfl rfl rfl rfl (by kernel_rfl) (by kernel_rfl) (fun _ _ _ _ h => h) (yh_extract rfl rfl rfl) ?_
                refine wd_take (i := 7) [2, 3, 4, 5] rfl rfl rfl rfl rfl (by kernel_rfl) (by kernel_rfl) (fun _ _ _ _ h => h) (yh_extract rfl rfl rfl) ?_
                refine wd_one 9 rfl rfl (by kernel_rfl) (ow_storeA Tb (k := 1) rfl rfl rfl rfl rfl rfl rfl rfl rfl (kk_wd [2, 3, 4, 5] (by kernel_rfl) ?_))
                refine wd_take (i := 10) [2, 3, 4, 5] rfl rfl rfl rfl rfl (by kernel_rfl) (by kernel_rfl) (fun _ _ _ _ h => h) (yh_assign rfl rfl) ?_
                refine wd_done (by kernel_rfl) ?_
                refine ex_seq ?_
                refine cw_seq ?_
                refine cw_freeze 1 rfl (fun w10 M10 hb10_ hz10 => ?_)
                replace h_u0 := Lay.rb h_u0 hb10_
                replace h_u1 := Lay.rb h_u1 hb10_
                replace hz1 := Lay.rb hz1 hb10_
                replace hz2 := Lay.rb hz2 hb10_
                replace hz3 := Lay.rb hz3 hb10_
                replace hz4 := Lay.rb hz4 hb10_
                replace hf72 := Lay.rb hf72 hb10_
                replace hz8 := Lay.rb hz8 hb10_
                replace hf80 := Lay.rb hf80 hb10_
                have hB10 := hB8.trans hb10_
                have mz10 := rd_max hz10
                refine cw_region ?_
                refine wl_u rfl (ow_y (yh_move rfl rfl) rfl rfl (kk_wl ?_))
                refine wl_u rfl (ow_y (yh_move rfl rfl) rfl rfl (kk_wl ?_))
                refine wl_s rfl rfl (fun cc18 => ?_) (fun cc18 => ?_)
                · skip
                  replace h := bt cc18 h
                  refine wl_g rfl rfl (ow_y (yh_move rfl rfl) rfl rfl (kk_wl ?_))
                  refine wl_u rfl (ow_y (yh_pickT rfl rfl rfl) rfl rfl (kk_wl ?_))
                  refine wl_u rfl (ow_y (yh_move rfl rfl) rfl rfl (kk_wl ?_))
                  refine wl_s rfl rfl (fun cc19 => ?_) (fun cc19 => ?_)
                  · skip
                    replace h := bt cc19 h
                    refine wl_g rfl rfl (ow_y (yh_loadBA Tb (k := 0) rfl rfl rfl rfl rfl rfl) rfl rfl (kk_wl ?_))
                    refine wl_g rfl rfl (ow_y (yh_loadBA Tb (k := 3) rfl rfl rfl rfl rfl rfl) rfl rfl (kk_wl ?_))
                    obtain ⟨x91, hx91, h⟩ := bd h
                    refine wl_g rfl rfl (ow_cV rfl hb10 rfl (fun w hw => c_laws_sameFlow N _ _ _ hx91 w (Lay.at_ hz10 hw) (Lay.at_ hz3 hw)) rfl rfl (kk_wl ?_))
                    refine wl_u rfl (ow_y (yh_pickT rfl rfl rfl) rfl rfl (kk_wl ?_))
                    refine wl_u rfl (ow_y (yh_move rfl rfl) rfl rfl (kk_wl ?_))
                    refine wl_s rfl rfl (fun cc20 => ?_) (fun cc20 => ?_)
                    · skip
                      replace h := bt cc20 h
                      refine wl_g rfl rfl (ow_y (yh_field Tb rfl rfl rfl) rfl rfl (kk_wl ?_))
                      refine wl_g rfl rfl (ow_y (yh_loadB Tb (k := 3) rfl rfl rfl rfl rfl) rfl rfl (kk_wl ?_))
                      refine wl_g rfl rfl (ow_y (yh_field Tb rfl rfl rfl) rfl rfl (kk_wl ?_))
                      refine wl_g rfl rfl (ow_y (yh_loadB Tb (k := 4) rfl rfl rfl rfl rfl) rfl rfl (kk_wl ?_))
                      refine wl_g rfl rfl (ow_y (yh_move rfl rfl) rfl rfl (kk_wl ?_))
                      refine wl_g rfl rfl (ow_y (yh_lenS Tb rfl rfl rfl rfl) rfl rfl (kk_wl ?_))
                      refine wl_g rfl rfl (ow_y (yh_arW rfl rfl rfl rfl) rfl rfl (kk_wl ?_))
                      refine wl_g rfl rfl (ow_y (yh_cmpI rfl rfl rfl rfl) rfl rfl (kk_wl ?_))
                      refine wl_u rfl (ow_y (yh_pickT rfl rfl rfl) rfl rfl (kk_wl ?_))
                      refine wl_u rfl (ow_y (yh_assign rfl rfl) rfl rfl (kk_wl ?_))
                      refine wl_nil ?_
                      refine ex_seq ?_
                      refine cw_ret ?_
                      obtain rfl := Option.some.inj h
                      exact ex_r1 Tb rfl (.tmp rfl) (fun wq hq => ⟨_, rfl, (hB10.back hq).ext, rfl⟩)
                    · skip
                      replace h := bf cc20 h
                      refine wl_n rfl rfl rfl rfl ?_
                      refine wl_n rfl rfl rfl rfl ?_
                      refine wl_n rfl rfl rfl rfl ?_
                      refine wl_n rfl rfl rfl rfl ?_
                      refine wl_n rfl rfl rfl rfl ?_
                      refine wl_n rfl rfl rfl rfl ?_
                      refine wl_n rfl rfl rfl rfl ?_
                      refine wl_n rfl rfl rfl rfl ?_
                      refine wl_u rfl (ow_y (yh_pickF rfl rfl rfl) rfl rfl (kk_wl ?_))
                      refine wl_u rfl (ow_y (yh_assign rfl rfl) rfl rfl (kk_wl ?_))
                      refine wl_nil ?_
                      refine ex_seq ?_
                      refine cw_ret ?_
                      obtain rfl := Option.some.inj h
                      exact ex_r1 Tb rfl (.tmp rfl) (fun wq hq => ⟨_, rfl, (hB10.back hq).ext, rfl⟩)
                  · skip
                    replace h := bf cc19 h
                    refine wl_n rfl rfl rfl rfl ?_
                    refine wl_n rfl rfl rfl rfl ?_
                    refine wl_n rfl rfl rfl rfl ?_
                    refine wl_u rfl (ow_y (yh_pickF rfl rfl rfl) rfl rfl (kk_wl ?_))
                    refine wl_u rfl (ow_y (yh_move rfl rfl) rfl rfl (kk_wl ?_))
                    refine wl_s rfl rfl nofun (fun _ => ?_)
                    refine wl_n rfl rfl rfl rfl ?_
                    refine wl_n rfl rfl rfl rfl ?_
                    refine wl_n rfl rfl rfl rfl ?_
                    refine wl_n rfl rfl rfl rfl ?_
                    refine wl_n rfl rfl rfl rfl ?_
                    refine wl_n rfl rfl rfl rfl ?_
                    refine wl_n rfl rfl rfl rfl ?_
                    refine wl_n rfl rfl rfl rfl ?_
                    refine wl_u rfl (ow_y (yh_pickF rfl rfl rfl) rfl rfl (kk_wl ?_))
                    refine wl_u rfl (ow_y (yh_assign rfl rfl) rfl rfl (kk_wl ?_))
                    refine wl_nil ?_
                    refine ex_seq ?_
                    refine cw_ret ?_
                    obtain rfl := Option.some.inj h
                    exact ex_r1 Tb rfl (.tmp rfl) (fun wq hq => ⟨_, rfl, (hB10.back hq).ext, rfl⟩)
                · skip
                  replace h := bf cc18 h
                  refine wl_n rfl rfl rfl rfl ?_
                  refine wl_u rfl (ow_y (yh_pickF rfl rfl rfl) rfl rfl (kk_wl ?_))
                  refine wl_u rfl (ow_y (yh_move rfl rfl) rfl rfl (kk_wl ?_))
                  refine wl_s rfl rfl nofun (fun _ => ?_)
                  refine wl_n rfl rfl rfl rfl ?_
                  refine wl_n rfl rfl rfl rfl ?_
                  refine wl_n rfl rfl rfl rfl ?_
                  refine wl_u rfl (ow_y (yh_pickF rfl rfl rfl) rfl rfl (kk_wl ?_))
                  refine wl_u rfl (ow_y (yh_move rfl rfl) rfl rfl (kk_wl ?_))
                  refine wl_s rfl rfl nofun (fun _ => ?_)
                  refine wl_n rfl rfl rfl rfl ?_
                  refine wl_n rfl rfl rfl rfl ?_
                  refine wl_n rfl rfl rfl rfl ?_
                  refine wl_n rfl rfl rfl rfl ?_
                  refine wl_n rfl rfl rfl rfl ?_
                  refine wl_n rfl rfl rfl rfl ?_
                  refine wl_n rfl rfl rfl rfl ?_
                  refine wl_n rfl rfl rfl rfl ?_
                  refine wl_u rfl (ow_y (yh_pickF rfl rfl rfl) rfl rfl (kk_wl ?_))
                  refine wl_u rfl (ow_y (yh_assign rfl rfl) rfl rfl (kk_wl ?_))
                  refine wl_nil ?_
                  refine ex_seq ?_
                  refine cw_ret ?_
                  obtain rfl := Option.some.inj h
                  exact ex_r1 Tb rfl (.tmp rfl) (fun wq hq => ⟨_, rfl, (hB10.back hq).ext, rfl⟩)

end Go.Proofs.Ytmnhnldnnniglaa
