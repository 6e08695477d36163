/- Mirrors and contracts, printed by a program: what each function computes as a plain term, and that it does. -/
import Derived.Test.YtmnhnldnnniglaaGreatR
import Derived.Test.YtmnhnldnnniglaaGreatK
import Derived.Test.YtmnhnldnnniglaaGreatWD0
import Derived.Test.YtmnhnldnnniglaaGreatWD1
import Derived.Test.YtmnhnldnnniglaaGreatWD2
set_option linter.all false
set_option maxRecDepth 100000
namespace Go.Proofs.YtmnhnldnnniglaaGreat
open Go.RowKit

def m_laws_FnMoveMayUndo (N : Nat) (u0 : List UInt8) : Option (Bool) := (bif ltb 1048576 ((u0.length : Nat) : Int) then some true
 else (m_spec_DrawMoveMay N u0).bind fun x15 => (m_impl_MoveMay N x15.1 x15.2.1 x15.2.2).bind fun x22 => (m_spec_MoveMay N x15.1 x15.2.1 x15.2.2).bind fun x26 => (bif x22 != x26 then some (x22 == x26)
 else (m_spec_RunValid N x15.1 x15.2.2).bind fun x33 => (bif !x33 then some (x22 == x26)
 else (bif eqb x15.2.2.state 1 then some (x22 == x26)
 else (bif eqb x15.2.2.state 3 then some (x22 == x26)
 else (m_impl_FlowChange N x15.1 x15.2.1).bind fun x52 => (bif !x52.2 then some true
 else (bif !(eqb x15.2.1.kind 4) then (bif !(eqb x15.2.1.kind 1) then some true
 else some x22)
 else some x22)))))))

set_option maxHeartbeats 4000000 in
theorem c_laws_FnMoveMayUndo (N : Nat) (u0 : List UInt8) (res : Bool) (h : m_laws_FnMoveMayUndo N u0 = some res) (w : World) {a_u0 : Option Addr} {c_u0 : Nat} (h_u0 : bytesL.rd w [] [.slice a_u0 u0.length c_u0] u0) : Ret Tryz.prog 5 [.slice a_u0 u0.length c_u0] w [] fun v w' => v = .bool res := by
  have mh_u0 := rd_max h_u0
  unfold m_laws_FnMoveMayUndo at h
  refine ret_enter Tryz.func5 rfl Tryz.ntmps5 rfl (Hp.refl w _) ?_
  refine cw_seq ?_
  refine cw_region ?_
  refine wl_u rfl (ow_y (yh_assign rfl rfl) rfl rfl (kk_wl ?_))
  refine wl_nil ?_
  refine ex_seq ?_
  refine cw_seq ?_
  refine cw_seq ?_
  refine cw_region ?_
  refine wl_u rfl (ow_y (yh_move rfl rfl) rfl rfl (kk_wl ?_))
  refine wl_u rfl (ow_y (yh_lenS Tb rfl rfl rfl rfl) rfl rfl (kk_wl ?_))
  refine wl_u rfl (ow_y (yh_cmpI rfl rfl rfl rfl) rfl rfl (kk_wl ?_))
  refine wl_nil ?_
  refine ex_seq ?_
  refine cw_split rfl (fun c1 => ?_) (fun c1 => ?_)
  · skip
    replace h := bt c1 h
    have q1 := ltb_true.1 c1
    refine cw_seq ?_
    refine cw_region ?_
    refine wl_u rfl (ow_y (yh_assign rfl rfl) rfl rfl (kk_wl ?_))
    refine wl_nil ?_
    refine ex_seq ?_
    refine cw_ret ?_
    refine ex_then_ret ?_
    obtain rfl := Option.some.inj h
    exact ex_r1 Tb rfl (.tmp rfl) (fun wq hq => ⟨_, rfl, hq.ext, rfl⟩)
  · skip
    replace h := bf c1 h
    have q2 := ltb_false.1 c1
    refine cw_skip ?_
    refine ex_seq ?_
    refine cw_seq ?_
    refine cw_region ?_
    refine wl_u rfl (ow_y (yh_move rfl rfl) rfl rfl (kk_wl ?_))
    obtain ⟨x15, hx15, h⟩ := bd h
    refine wl_u rfl (ow_cN3 rfl hb23 rfl (fun w hw => c_spec_DrawMoveMay N _ _ hx15 w (Lay.at_ h_u0 hw)) rfl rfl (fun a15 c15 F15 a15_2 c15_2 F15_2 a15_3 c15_3 F15_3 => kk_wl ?_))
    refine wl_u rfl (ow_y (yh_move rfl rfl) rfl rfl (kk_wl ?_))
    refine wl_u rfl (ow_y (yh_extract rfl rfl rfl) rfl rfl (kk_wl ?_))
    refine wl_u rfl (ow_y (yh_extract rfl rfl rfl) rfl rfl (kk_wl ?_))
    refine wl_u rfl (ow_y (yh_extract rfl rfl rfl) rfl rfl (kk_wl ?_))
    refine wl_u rfl (ow_allocA Tb rfl rfl rfl rfl (fun g3 => kk_wl ?_))
    refine wl_u rfl (ow_allocA Tb rfl rfl rfl rfl (fun g4 => kk_wl ?_))
    refine wl_u rfl (ow_allocA Tb rfl rfl rfl rfl (fun g5 => kk_wl ?_))
    refine wl_u rfl (ow_storeA Tb (k := 2) rfl rfl rfl rfl rfl rfl rfl rfl rfl (kk_wl ?_))
    refine wl_u rfl (ow_storeA Tb (k := 2) rfl rfl rfl rfl rfl rfl rfl rfl rfl (kk_wl ?_))
    refine wl_u rfl (ow_storeA Tb (k := 2) rfl rfl rfl rfl rfl rfl rfl rfl rfl (kk_wl ?_))
    refine wl_nil ?_
    refine ex_seq ?_
    refine cw_seq ?_
    refine cw_freeze 3 rfl (fun w1 M1 hb1_ hz1 => ?_)
    replace h_u0 := Lay.rb h_u0 hb1_
    have hB1 := hb1_
    have mz1 := rd_max hz1
    refine cw_freeze 3 rfl (fun w2 M2 hb2_ hz2 => ?_)
    replace h_u0 := Lay.rb h_u0 hb2_
    replace hz1 := Lay.rb hz1 hb2_
    have hB2 := hB1.trans hb2_
    have mz2 := rd_max hz2
    refine cw_freeze 3 rfl (fun w3 M3 hb3_ hz3 => ?_)
    replace h_u0 := Lay.rb h_u0 hb3_
    replace hz1 := Lay.rb hz1 hb3_
    replace hz2 := Lay.rb hz2 hb3_
    have hB3 := hB2.trans hb3_
    have mz3 := rd_max hz3
    refine cw_region ?_
    refine wl_u rfl (ow_y (yh_loadBA Tb (k := 2) rfl rfl rfl rfl rfl rfl) rfl rfl (kk_wl ?_))
    refine wl_u rfl (ow_y (yh_loadBA Tb (k := 1) rfl rfl rfl rfl rfl rfl) rfl rfl (kk_wl ?_))
    refine wl_u rfl (ow_y (yh_loadBA Tb (k := 0) rfl rfl rfl rfl rfl rfl) rfl rfl (kk_wl ?_))
    obtain ⟨x22, hx22, h⟩ := bd h
    refine wl_u rfl (ow_cV rfl hb24 rfl (fun w hw => c_impl_MoveMay N _ _ _ _ hx22 w (Lay.at_ hz1 hw) (Lay.at_ hz2 hw) (Lay.at_ hz3 hw)) rfl rfl (kk_wl ?_))
    refine wl_u rfl (ow_y (yh_assign rfl rfl) rfl rfl (kk_wl ?_))
    refine wl_nil ?_
    refine ex_seq ?_
    refine cw_seq ?_
    refine cw_region ?_
    refine wl_u rfl (ow_y (yh_loadBA Tb (k := 2) rfl rfl rfl rfl rfl rfl) rfl rfl (kk_wl ?_))
    refine wl_u rfl (ow_y (yh_loadBA Tb (k := 1) rfl rfl rfl rfl rfl rfl) rfl rfl (kk_wl ?_))
    refine wl_u rfl (ow_y (yh_loadBA Tb (k := 0) rfl rfl rfl rfl rfl rfl) rfl rfl (kk_wl ?_))
    obtain ⟨x26, hx26, h⟩ := bd h
    refine wl_u rfl (ow_cV rfl hb25 rfl (fun w hw => c_spec_MoveMay N _ _ _ _ hx26 w (Lay.at_ hz1 hw) (Lay.at_ hz2 hw) (Lay.at_ hz3 hw)) rfl rfl (kk_wl ?_))
    refine wl_u rfl (ow_y (yh_assign rfl rfl) rfl rfl (kk_wl ?_))
    refine wl_nil ?_
    refine ex_seq ?_
    refine cw_seq ?_
    refine cw_seq ?_
    refine cw_region ?_
    refine wl_u rfl (ow_y (yh_move rfl rfl) rfl rfl (kk_wl ?_))
    refine wl_u rfl (ow_y (yh_move rfl rfl) rfl rfl (kk_wl ?_))
    refine wl_u rfl (ow_y (yh_cmpB rfl rfl rfl rfl (by kernel_rfl)) rfl rfl (kk_wl ?_))
    refine wl_u rfl (ow_y (yh_move rfl rfl) rfl rfl (kk_wl ?_))
    refine wl_s rfl rfl (fun c2 => ?_) (fun c2 => ?_)
    · skip
      replace h := bt c2 h
      refine wl_n rfl rfl rfl rfl ?_
      refine wl_n rfl rfl rfl rfl ?_
      refine wl_n rfl rfl rfl rfl ?_
      refine wl_n rfl rfl rfl rfl ?_
      refine wl_u rfl (ow_y (yh_pickT rfl rfl rfl) rfl rfl (kk_wl ?_))
      refine wl_u rfl (ow_y (yh_move rfl rfl) rfl rfl (kk_wl ?_))
      refine wl_s rfl rfl (fun _ => ?_) nofun
      refine wl_n rfl rfl rfl rfl ?_
      refine wl_n rfl rfl rfl rfl ?_
      refine wl_n rfl rfl rfl rfl ?_
      refine wl_u rfl (ow_y (yh_pickT rfl rfl rfl) rfl rfl (kk_wl ?_))
      refine wl_u rfl (ow_y (yh_move rfl rfl) rfl rfl (kk_wl ?_))
      refine wl_s rfl rfl (fun _ => ?_) nofun
      refine wl_n rfl rfl rfl rfl ?_
      refine wl_n rfl rfl rfl rfl ?_
      refine wl_n rfl rfl rfl rfl ?_
      refine wl_u rfl (ow_y (yh_pickT rfl rfl rfl) rfl rfl (kk_wl ?_))
      refine wl_nil ?_
      refine ex_seq ?_
      refine cw_true rfl ?_
      refine cw_seq ?_
      refine cw_region ?_
      refine wl_u rfl (ow_y (yh_move rfl rfl) rfl rfl (kk_wl ?_))
      refine wl_u rfl (ow_y (yh_move rfl rfl) rfl rfl (kk_wl ?_))
      refine wl_u rfl (ow_y (yh_cmpB rfl rfl rfl rfl (by kernel_rfl)) rfl rfl (kk_wl ?_))
      refine wl_u rfl (ow_y (yh_assign rfl rfl) rfl rfl (kk_wl ?_))
      refine wl_nil ?_
      refine ex_seq ?_
      refine cw_ret ?_
      refine ex_then_ret ?_
      obtain rfl := Option.some.inj h
      exact ex_r1 Tb rfl (.tmp rfl) (fun wq hq => ⟨_, rfl, (hB3.back hq).ext, rfl⟩)
    · skip
      replace h := bf c2 h
      refine wl_g rfl rfl (ow_y (yh_loadBA Tb (k := 2) rfl rfl rfl rfl rfl rfl) rfl rfl (kk_wl ?_))
      refine wl_g rfl rfl (ow_y (yh_loadBA Tb (k := 0) rfl rfl rfl rfl rfl rfl) rfl rfl (kk_wl ?_))
      obtain ⟨x33, hx33, h⟩ := bd h
      refine wl_g rfl rfl (ow_cV rfl hb26 rfl (fun w hw => c_spec_RunValid N _ _ _ hx33 w (Lay.at_ hz1 hw) (Lay.at_ hz3 hw)) rfl rfl (kk_wl ?_))
      refine wl_g rfl rfl (ow_y (yh_not rfl rfl) rfl rfl (kk_wl ?_))
      refine wl_u rfl (ow_y (yh_pickF rfl rfl rfl) rfl rfl (kk_wl ?_))
      refine wl_u rfl (ow_y (yh_move rfl rfl) rfl rfl (kk_wl ?_))
      refine wl_s rfl rfl (fun c3 => ?_) (fun c3 => ?_)
      · skip
        replace h := bt c3 h
        refine wl_n rfl rfl rfl rfl ?_
        refine wl_n rfl rfl rfl rfl ?_
        refine wl_n rfl rfl rfl rfl ?_
        refine wl_u rfl (ow_y (yh_pickT rfl rfl rfl) rfl rfl (kk_wl ?_))
        refine wl_u rfl (ow_y (yh_move rfl rfl) rfl rfl (kk_wl ?_))
        refine wl_s rfl rfl (fun _ => ?_) nofun
        refine wl_n rfl rfl rfl rfl ?_
        refine wl_n rfl rfl rfl rfl ?_
        refine wl_n rfl rfl rfl rfl ?_
        refine wl_u rfl (ow_y (yh_pickT rfl rfl rfl) rfl rfl (kk_wl ?_))
        refine wl_nil ?_
        refine ex_seq ?_
        refine cw_true rfl ?_
        refine cw_seq ?_
        refine cw_region ?_
        refine wl_u rfl (ow_y (yh_move rfl rfl) rfl rfl (kk_wl ?_))
        refine wl_u rfl (ow_y (yh_move rfl rfl) rfl rfl (kk_wl ?_))
        refine wl_u rfl (ow_y (yh_cmpB rfl rfl rfl rfl (by kernel_rfl)) rfl rfl (kk_wl ?_))
        refine wl_u rfl (ow_y (yh_assign rfl rfl) rfl rfl (kk_wl ?_))
        refine wl_nil ?_
        refine ex_seq ?_
        refine cw_ret ?_
        refine ex_then_ret ?_
        obtain rfl := Option.some.inj h
        exact ex_r1 Tb rfl (.tmp rfl) (fun wq hq => ⟨_, rfl, (hB3.back hq).ext, rfl⟩)
      · skip
        replace h := bf c3 h
        refine wl_g rfl rfl (ow_y (yh_field Tb rfl rfl rfl) rfl rfl (kk_wl ?_))
        refine wl_g rfl rfl (ow_y (yh_loadB Tb (k := 0) rfl rfl rfl rfl rfl) rfl rfl (kk_wl ?_))
        refine wl_g rfl rfl (ow_y (yh_cmpI rfl rfl rfl rfl) rfl rfl (kk_wl ?_))
        refine wl_u rfl (ow_y (yh_pickF rfl rfl rfl) rfl rfl (kk_wl ?_))
        refine wl_u rfl (ow_y (yh_move rfl rfl) rfl rfl (kk_wl ?_))
        refine wl_s rfl rfl (fun c4 => ?_) (fun c4 => ?_)
        · skip
          replace h := bt c4 h
          have q3 := eqb_true.1 c4
          refine wl_n rfl rfl rfl rfl ?_
          refine wl_n rfl rfl rfl rfl ?_
          refine wl_n rfl rfl rfl rfl ?_
          refine wl_u rfl (ow_y (yh_pickT rfl rfl rfl) rfl rfl (kk_wl ?_))
          refine wl_nil ?_
          refine ex_seq ?_
          refine cw_true rfl ?_
          refine cw_seq ?_
          refine cw_region ?_
          refine wl_u rfl (ow_y (yh_move rfl rfl) rfl rfl (kk_wl ?_))
          refine wl_u rfl (ow_y (yh_move rfl rfl) rfl rfl (kk_wl ?_))
          refine wl_u rfl (ow_y (yh_cmpB rfl rfl rfl rfl (by kernel_rfl)) rfl rfl (kk_wl ?_))
          refine wl_u rfl (ow_y (yh_assign rfl rfl) rfl rfl (kk_wl ?_))
          refine wl_nil ?_
          refine ex_seq ?_
          refine cw_ret ?_
          refine ex_then_ret ?_
          obtain rfl := Option.some.inj h
          exact ex_r1 Tb rfl (.tmp rfl) (fun wq hq => ⟨_, rfl, (hB3.back hq).ext, rfl⟩)
        · skip
          replace h := bf c4 h
          have q4 := eqb_false.1 c4
          refine wl_g rfl rfl (ow_y (yh_field Tb rfl rfl rfl) rfl rfl (kk_wl ?_))
          refine wl_g rfl rfl (ow_y (yh_loadB Tb (k := 0) rfl rfl rfl rfl rfl) rfl rfl (kk_wl ?_))
          refine wl_g rfl rfl (ow_y (yh_cmpI rfl rfl rfl rfl) rfl rfl (kk_wl ?_))
          refine wl_u rfl (ow_y (yh_pickF rfl rfl rfl) rfl rfl (kk_wl ?_))
          refine wl_nil ?_
          refine ex_seq ?_
          refine cw_split rfl (fun c5 => ?_) (fun c5 => ?_)
          · skip
            replace h := bt c5 h
            have q5 := eqb_true.1 c5
            refine cw_seq ?_
            refine cw_region ?_
            refine wl_u rfl (ow_y (yh_move rfl rfl) rfl rfl (kk_wl ?_))
            refine wl_u rfl (ow_y (yh_move rfl rfl) rfl rfl (kk_wl ?_))
            refine wl_u rfl (ow_y (yh_cmpB rfl rfl rfl rfl (by kernel_rfl)) rfl rfl (kk_wl ?_))
            refine wl_u rfl (ow_y (yh_assign rfl rfl) rfl rfl (kk_wl ?_))
            refine wl_nil ?_
            refine ex_seq ?_
            refine cw_ret ?_
            refine ex_then_ret ?_
            obtain rfl := Option.some.inj h
            exact ex_r1 Tb rfl (.tmp rfl) (fun wq hq => ⟨_, rfl, (hB3.back hq).ext, rfl⟩)
          · skip
            replace h := bf c5 h
            have q6 := eqb_false.1 c5
            refine cw_skip ?_
            refine ex_seq ?_
            refine cw_seq ?_
            refine cw_region ?_
            refine wl_u rfl (ow_y (yh_loadBA Tb (k := 2) rfl rfl rfl rfl rfl rfl) rfl rfl (kk_wl ?_))
            refine wl_u rfl (ow_y (yh_loadBA Tb (k := 1) rfl rfl rfl rfl rfl rfl) rfl rfl (kk_wl ?_))
            obtain ⟨x52, hx52, h⟩ := bd h
            refine wl_u rfl (ow_cN1 rfl hb27 rfl (fun w hw => c_impl_FlowChange N _ _ _ hx52 w (Lay.at_ hz1 hw) (Lay.at_ hz2 hw)) rfl rfl (fun a52 c52 F52 => kk_wl ?_))
            refine wl_u rfl (ow_y (yh_move rfl rfl) rfl rfl (kk_wl ?_))
            refine wl_u rfl (ow_y (yh_extract rfl rfl rfl) rfl rfl (kk_wl ?_))
            refine wl_u rfl (ow_y (yh_extract rfl rfl rfl) rfl rfl (kk_wl ?_))
            refine wl_u rfl (ow_allocA Tb rfl rfl rfl rfl (fun g8 => kk_wl ?_))
            refine wl_u rfl (ow_storeA Tb (k := 0) rfl rfl rfl rfl rfl rfl rfl rfl rfl (kk_wl ?_))
            refine wl_u rfl (ow_y (yh_assign rfl rfl) rfl rfl (kk_wl ?_))
            refine wl_nil ?_
            refine ex_seq ?_
            refine cw_seq ?_
            refine cw_freeze 1 rfl (fun w4 M4 hb4_ hz4 => ?_)
            replace h_u0 := Lay.rb h_u0 hb4_
            replace hz1 := Lay.rb hz1 hb4_
            replace hz2 := Lay.rb hz2 hb4_
            replace hz3 := Lay.rb hz3 hb4_
            have hB4 := hB3.trans hb4_
            have mz4 := rd_max hz4
            refine cw_region ?_
            refine wl_u rfl (ow_y (yh_move rfl rfl) rfl rfl (kk_wl ?_))
            refine wl_u rfl (ow_y (yh_not rfl rfl) rfl rfl (kk_wl ?_))
            refine wl_u rfl (ow_y (yh_move rfl rfl) rfl rfl (kk_wl ?_))
            refine wl_s rfl rfl (fun c6 => ?_) (fun c6 => ?_)
            · skip
              replace h := bt c6 h
              refine wl_n rfl rfl rfl rfl ?_
              refine wl_n rfl rfl rfl rfl ?_
              refine wl_n rfl rfl rfl rfl ?_
              refine wl_n rfl rfl rfl rfl ?_
              refine wl_n rfl rfl rfl rfl ?_
              refine wl_n rfl rfl rfl rfl ?_
              refine wl_n rfl rfl rfl rfl ?_
              refine wl_n rfl rfl rfl rfl ?_
              refine wl_u rfl (ow_y (yh_pickT rfl rfl rfl) rfl rfl (kk_wl ?_))
              refine wl_u rfl (ow_y (yh_move rfl rfl) rfl rfl (kk_wl ?_))
              refine wl_s rfl rfl (fun _ => ?_) nofun
              refine wl_n rfl rfl rfl rfl ?_
              refine wl_u rfl (ow_y (yh_pickT rfl rfl rfl) rfl rfl (kk_wl ?_))
              refine wl_u rfl (ow_y (yh_assign rfl rfl) rfl rfl (kk_wl ?_))
              refine wl_nil ?_
              refine ex_seq ?_
              refine cw_ret ?_
              obtain rfl := Option.some.inj h
              exact ex_r1 Tb rfl (.tmp rfl) (fun wq hq => ⟨_, rfl, (hB4.back hq).ext, rfl⟩)
            · skip
              replace h := bf c6 h
              refine wl_g rfl rfl (ow_y (yh_field Tb rfl rfl rfl) rfl rfl (kk_wl ?_))
              refine wl_g rfl rfl (ow_y (yh_loadB Tb (k := 2) rfl rfl rfl rfl rfl) rfl rfl (kk_wl ?_))
              refine wl_g rfl rfl (ow_y (yh_cmpI rfl rfl rfl rfl) rfl rfl (kk_wl ?_))
              refine wl_g rfl rfl (ow_y (yh_move rfl rfl) rfl rfl (kk_wl ?_))
              refine wl_s rfl rfl (fun c7 => ?_) (fun c7 => ?_)
              · skip
                replace h := bt c7 h
                have q7 := eqb_false.1 (nt c7)
                refine wl_g rfl rfl (ow_y (yh_field Tb rfl rfl rfl) rfl rfl (kk_wl ?_))
                refine wl_g rfl rfl (ow_y (yh_loadB Tb (k := 2) rfl rfl rfl rfl rfl) rfl rfl (kk_wl ?_))
                refine wl_g rfl rfl (ow_y (yh_cmpI rfl rfl rfl rfl) rfl rfl (kk_wl ?_))
                refine wl_g rfl rfl (ow_y (yh_pickT rfl rfl rfl) rfl rfl (kk_wl ?_))
                refine wl_u rfl (ow_y (yh_pickF rfl rfl rfl) rfl rfl (kk_wl ?_))
                refine wl_u rfl (ow_y (yh_move rfl rfl) rfl rfl (kk_wl ?_))
                refine wl_s rfl rfl (fun c8 => ?_) (fun c8 => ?_)
                · skip
                  replace h := bt c8 h
                  have q8 := eqb_false.1 (nt c8)
                  refine wl_n rfl rfl rfl rfl ?_
                  refine wl_u rfl (ow_y (yh_pickT rfl rfl rfl) rfl rfl (kk_wl ?_))
                  refine wl_u rfl (ow_y (yh_assign rfl rfl) rfl rfl (kk_wl ?_))
                  refine wl_nil ?_
                  refine ex_seq ?_
                  refine cw_ret ?_
                  obtain rfl := Option.some.inj h
                  exact ex_r1 Tb rfl (.tmp rfl) (fun wq hq => ⟨_, rfl, (hB4.back hq).ext, rfl⟩)
                · skip
                  replace h := bf c8 h
                  have q9 := eqb_true.1 (nf c8)
                  refine wl_g rfl rfl (ow_y (yh_move rfl rfl) rfl rfl (kk_wl ?_))
                  refine wl_u rfl (ow_y (yh_pickF rfl rfl rfl) rfl rfl (kk_wl ?_))
                  refine wl_u rfl (ow_y (yh_assign rfl rfl) rfl rfl (kk_wl ?_))
                  refine wl_nil ?_
                  refine ex_seq ?_
                  refine cw_ret ?_
                  obtain rfl := Option.some.inj h
                  exact ex_r1 Tb rfl (.tmp rfl) (fun wq hq => ⟨_, rfl, (hB4.back hq).ext, rfl⟩)
              · skip
                replace h := bf c7 h
                have q10 := eqb_true.1 (nf c7)
                refine wl_n rfl rfl rfl rfl ?_
                refine wl_n rfl rfl rfl rfl ?_
                refine wl_n rfl rfl rfl rfl ?_
                refine wl_g rfl rfl (ow_y (yh_pickF rfl rfl rfl) rfl rfl (kk_wl ?_))
                refine wl_u rfl (ow_y (yh_pickF rfl rfl rfl) rfl rfl (kk_wl ?_))
                refine wl_u rfl (ow_y (yh_move rfl rfl) rfl rfl (kk_wl ?_))
                refine wl_s rfl rfl nofun (fun _ => ?_)
                refine wl_g rfl rfl (ow_y (yh_move rfl rfl) rfl rfl (kk_wl ?_))
                refine wl_u rfl (ow_y (yh_pickF rfl rfl rfl) rfl rfl (kk_wl ?_))
                refine wl_u rfl (ow_y (yh_assign rfl rfl) rfl rfl (kk_wl ?_))
                refine wl_nil ?_
                refine ex_seq ?_
                refine cw_ret ?_
                obtain rfl := Option.some.inj h
                exact ex_r1 Tb rfl (.tmp rfl) (fun wq hq => ⟨_, rfl, (hB4.back hq).ext, rfl⟩)

def m_laws_placeOf_L4 (N : Nat) (list_ : List Str) (s_ : Str) : Nat → Nat → Option (Ex (Nat) (Int))
  | 0, _ => none
  | n + 1, s5 => (bif ltb ((s5 : Nat) : Int) ((list_.length : Nat) : Int) then (list_[s5]?).bind fun y14 => (bif seq y14 s_ then some (Ex.ret ((s5 : Nat) : Int))
 else m_laws_placeOf_L4 N list_ s_ n (s5 + 1))
 else some (Ex.brk (s5)))

def m_laws_placeOf (N : Nat) (list_ : List Str) (s_ : Str) : Option (Int) := (m_laws_placeOf_L4 N list_ s_ N 0).bind fun e4 => e4.go (fun r => r) fun b4 => some (-1)

set_option maxHeartbeats 4000000 in
theorem c_laws_placeOf (N : Nat) (list_ : List Str) (s_ : Str) (res : Int) (h : m_laws_placeOf N list_ s_ = some res) (w : World) {a_list_ : Option Addr} {c_list_ : Nat} (h_list_ : strsL.rd w [] [.slice a_list_ list_.length c_list_] list_) : Ret Tryz.prog 28 [.slice a_list_ list_.length c_list_, .string s_] w [] fun v w' => v = .int .i64 res := by
  have mh_list_ := rd_max h_list_
  unfold m_laws_placeOf at h
  refine ret_enter Tryz.func28 rfl Tryz.ntmps28 rfl (Hp.refl w _) ?_
  refine cw_seq ?_
  refine cw_region ?_
  refine wl_u rfl (ow_y (yh_assign rfl rfl) rfl rfl (kk_wl ?_))
  refine wl_nil ?_
  refine ex_seq ?_
  refine cw_seq ?_
  refine cw_seq ?_
  refine cw_region ?_
  refine wl_u rfl (ow_y (yh_assign rfl rfl) rfl rfl (kk_wl ?_))
  refine wl_nil ?_
  refine ex_seq ?_
  refine cw_block ?_
  obtain ⟨e4, he4, hk4⟩ := bd h
  clear h
  refine cw_loopG (σ := Nat × Nat) (fun s => m_laws_placeOf_L4 N list_ s_ s.1 s.2 = some e4) (fun s => [(0, .slice a_list_ list_.length c_list_), (1, .string s_), (5, .int .i64 ((s.2 : Nat) : Int))]) (fun s => []) (fun s => s.1) (N, 0) [] he4 ⟨rfl, rfl, rfl, trivial⟩ rfl (fun KL s he4 hn4 => ?_)
  obtain ⟨n4, s5⟩ := s
  simp only at he4 hn4 ⊢
  rcases n4 with _ | n4
  · exact nosome he4
  have h := he4; rw [m_laws_placeOf_L4] at h
  refine cw_seq ?_
  refine cw_seq ?_
  refine cw_region ?_
  refine wl_u rfl (ow_y (yh_move rfl rfl) rfl rfl (kk_wl ?_))
  refine wl_u rfl (ow_y (yh_move rfl rfl) rfl rfl (kk_wl ?_))
  refine wl_u rfl (ow_y (yh_lenS Tb rfl rfl rfl rfl) rfl rfl (kk_wl ?_))
  refine wl_u rfl (ow_y (yh_cmpI rfl rfl rfl rfl) rfl rfl (kk_wl ?_))
  refine wl_nil ?_
  refine ex_seq ?_
  refine cw_split rfl (fun c1 => ?_) (fun c1 => ?_)
  · skip
    replace h := bt c1 h
    have q1 := ltb_true.1 c1
    refine cw_skip ?_
    refine ex_seq ?_
    refine cw_seq ?_
    refine cw_block ?_
    refine cw_seq ?_
    refine cw_region ?_
    refine wl_u rfl (ow_y (yh_move rfl rfl) rfl rfl (kk_wl ?_))
    refine wl_u rfl (ow_y (yh_move rfl rfl) rfl rfl (kk_wl ?_))
    obtain ⟨y14, hy14, h⟩ := bd h
    obtain ⟨b14, o14, ha14⟩ := sl_addr h_list_ hy14
    subst ha14
    have hc14 := get_str h_list_ hy14
    refine wl_u rfl (ow_y (yh_idx Tb (k := s5) rfl rfl rfl rfl (get_lt hy14) rfl rfl) rfl rfl (kk_wl ?_))
    refine wl_u rfl (ow_y (yh_loadA0 Tb rfl rfl rfl hc14 rfl) rfl rfl (kk_wl ?_))
    refine wl_u rfl (ow_y (yh_move rfl rfl) rfl rfl (kk_wl ?_))
    refine wl_u rfl (ow_y (yh_cmpS rfl rfl rfl rfl) rfl rfl (kk_wl ?_))
    refine wl_nil ?_
    refine ex_seq ?_
    refine cw_split rfl (fun c2 => ?_) (fun c2 => ?_)
    · skip
      replace h := bt c2 h
      refine cw_seq ?_
      refine cw_region ?_
      refine wl_u rfl (ow_y (yh_move rfl rfl) rfl rfl (kk_wl ?_))
      refine wl_u rfl (ow_y (yh_assign rfl rfl) rfl rfl (kk_wl ?_))
      refine wl_nil ?_
      refine ex_seq ?_
      refine cw_ret ?_
      refine ex_block_ret ?_
      refine ex_then_ret ?_
      refine ex_then_ret ?_
      refine ex_block_ret ?_
      refine ex_then_ret ?_
      obtain rfl := Option.some.inj h
      obtain rfl := go_ret hk4
      exact ex_r1 Tb rfl (.tmp rfl) (fun wq hq => ⟨_, rfl, hq.ext, rfl⟩)
    · skip
      replace h := bf c2 h
      refine cw_skip ?_
      refine ex_block_normal ?_
      refine ex_seq ?_
      refine cw_region ?_
      refine wl_u rfl (ow_y (yh_move rfl rfl) rfl rfl (kk_wl ?_))
      refine wl_u rfl (ow_y (yh_arI rfl rfl rfl rfl (by omega)) rfl rfl (kk_wl ?_))
      refine wl_u rfl (ow_y (yh_assign rfl rfl) rfl rfl (kk_wl ?_))
      refine wl_nil ?_
      exact ex_next [] (hn4 (n4, s5 + 1) (Nat.lt_succ_self _) h) ⟨rfl, rfl, rfl, trivial⟩ (by kernel_rfl)
  · skip
    replace h := bf c1 h
    have q2 := ltb_false.1 c1
    refine cw_exit ?_
    refine ex_then_exit ?_
    refine ex_then_exit ?_
    obtain rfl := Option.some.inj h
    have h := go_brk hk4
    refine ex_block_exit ?_
    refine ex_seq ?_
    refine cw_seq ?_
    refine cw_region ?_
    refine wl_u rfl (ow_y (yh_assign rfl rfl) rfl rfl (kk_wl ?_))
    refine wl_nil ?_
    refine ex_seq ?_
    refine cw_ret ?_
    obtain rfl := Option.some.inj h
    exact ex_r1 Tb rfl (.tmp rfl) (fun wq hq => ⟨_, rfl, hq.ext, rfl⟩)

def m_laws_FnMoveMayAdd (N : Nat) (u0 : List UInt8) : Option (Bool) := (bif ltb 1048576 ((u0.length : Nat) : Int) then some true
 else (m_spec_DrawMoveMay N u0).bind fun x15 => (m_impl_MoveMay N x15.1 x15.2.1 x15.2.2).bind fun x22 => (m_spec_MoveMay N x15.1 x15.2.1 x15.2.2).bind fun x26 => (bif x22 != x26 then some (x22 == x26)
 else (m_spec_RunValid N x15.1 x15.2.2).bind fun x33 => (bif !x33 then some (x22 == x26)
 else (bif x26 then some (x22 == x26)
 else (bif eqb x15.2.2.state 1 then some (x22 == x26)
 else (bif eqb x15.2.2.state 3 then some (x22 == x26)
 else (m_impl_FlowChange N x15.1 x15.2.1).bind fun x55 => (bif !x55.2 then some true
 else (bif eqb x15.2.1.kind 2 then (m_laws_placeOf N x15.2.2.done x15.2.1.step.name).bind fun x75 => some (leb 0 x75)
 else (bif eqb x15.2.1.kind 3 then (m_laws_placeOf N x15.2.2.done x15.2.1.step.name).bind fun x75 => some (leb 0 x75)
 else some false)))))))))

set_option maxHeartbeats 4000000 in
theorem c_laws_FnMoveMayAdd (N : Nat) (u0 : List UInt8) (res : Bool) (h : m_laws_FnMoveMayAdd N u0 = some res) (w : World) {a_u0 : Option Addr} {c_u0 : Nat} (h_u0 : bytesL.rd w [] [.slice a_u0 u0.length c_u0] u0) : Ret Tryz.prog 6 [.slice a_u0 u0.length c_u0] w [] fun v w' => v = .bool res := by
  have mh_u0 := rd_max h_u0
  unfold m_laws_FnMoveMayAdd at h
  refine ret_enter Tryz.func6 rfl Tryz.ntmps6 rfl (Hp.refl w _) ?_
  refine cw_seq ?_
  refine cw_region ?_
  refine wl_u rfl (ow_y (yh_assign rfl rfl) rfl rfl (kk_wl ?_))
  refine wl_nil ?_
  refine ex_seq ?_
  refine cw_seq ?_
  refine cw_seq ?_
  refine cw_region ?_
  refine wl_u rfl (ow_y (yh_move rfl rfl) rfl rfl (kk_wl ?_))
  refine wl_u rfl (ow_y (yh_lenS Tb rfl rfl rfl rfl) rfl rfl (kk_wl ?_))
  refine wl_u rfl (ow_y (yh_cmpI rfl rfl rfl rfl) rfl rfl (kk_wl ?_))
  refine wl_nil ?_
  refine ex_seq ?_
  refine cw_split rfl (fun c1 => ?_) (fun c1 => ?_)
  · skip
    replace h := bt c1 h
    have q1 := ltb_true.1 c1
    refine cw_seq ?_
    refine cw_region ?_
    refine wl_u rfl (ow_y (yh_assign rfl rfl) rfl rfl (kk_wl ?_))
    refine wl_nil ?_
    refine ex_seq ?_
    refine cw_ret ?_
    refine ex_then_ret ?_
    obtain rfl := Option.some.inj h
    exact ex_r1 Tb rfl (.tmp rfl) (fun wq hq => ⟨_, rfl, hq.ext, rfl⟩)
  · skip
    replace h := bf c1 h
    have q2 := ltb_false.1 c1
    refine cw_skip ?_
    refine ex_seq ?_
    refine cw_seq ?_
    refine cw_region ?_
    refine wl_u rfl (ow_y (yh_move rfl rfl) rfl rfl (kk_wl ?_))
    obtain ⟨x15, hx15, h⟩ := bd h
    refine wl_u rfl (ow_cN3 rfl hb23 rfl (fun w hw => c_spec_DrawMoveMay N _ _ hx15 w (Lay.at_ h_u0 hw)) rfl rfl (fun a15 c15 F15 a15_2 c15_2 F15_2 a15_3 c15_3 F15_3 => kk_wl ?_))
    refine wl_u rfl (ow_y (yh_move rfl rfl) rfl rfl (kk_wl ?_))
    refine wl_u rfl (ow_y (yh_extract rfl rfl rfl) rfl rfl (kk_wl ?_))
    refine wl_u rfl (ow_y (yh_extract rfl rfl rfl) rfl rfl (kk_wl ?_))
    refine wl_u rfl (ow_y (yh_extract rfl rfl rfl) rfl rfl (kk_wl ?_))
    refine wl_u rfl (ow_allocA Tb rfl rfl rfl rfl (fun g3 => kk_wl ?_))
    refine wl_u rfl (ow_allocA Tb rfl rfl rfl rfl (fun g4 => kk_wl ?_))
    refine wl_u rfl (ow_allocA Tb rfl rfl rfl rfl (fun g5 => kk_wl ?_))
    refine wl_u rfl (ow_storeA Tb (k := 2) rfl rfl rfl rfl rfl rfl rfl rfl rfl (kk_wl ?_))
    refine wl_u rfl (ow_storeA Tb (k := 2) rfl rfl rfl rfl rfl rfl rfl rfl rfl (kk_wl ?_))
    refine wl_u rfl (ow_storeA Tb (k := 2) rfl rfl rfl rfl rfl rfl rfl rfl rfl (kk_wl ?_))
    refine wl_nil ?_
    refine ex_seq ?_
    refine cw_seq ?_
    refine cw_freeze 3 rfl (fun w1 M1 hb1_ hz1 => ?_)
    replace h_u0 := Lay.rb h_u0 hb1_
    have hB1 := hb1_
    have mz1 := rd_max hz1
    refine cw_freeze 3 rfl (fun w2 M2 hb2_ hz2 => ?_)
    replace h_u0 := Lay.rb h_u0 hb2_
    replace hz1 := Lay.rb hz1 hb2_
    have hB2 := hB1.trans hb2_
    have mz2 := rd_max hz2
    refine cw_freeze 3 rfl (fun w3 M3 hb3_ hz3 => ?_)
    replace h_u0 := Lay.rb h_u0 hb3_
    replace hz1 := Lay.rb hz1 hb3_
    replace hz2 := Lay.rb hz2 hb3_
    have hB3 := hB2.trans hb3_
    have mz3 := rd_max hz3
    refine cw_region ?_
    refine wl_u rfl (ow_y (yh_loadBA Tb (k := 2) rfl rfl rfl rfl rfl rfl) rfl rfl (kk_wl ?_))
    refine wl_u rfl (ow_y (yh_loadBA Tb (k := 1) rfl rfl rfl rfl rfl rfl) rfl rfl (kk_wl ?_))
    refine wl_u rfl (ow_y (yh_loadBA Tb (k := 0) rfl rfl rfl rfl rfl rfl) rfl rfl (kk_wl ?_))
    obtain ⟨x22, hx22, h⟩ := bd h
    refine wl_u rfl (ow_cV rfl hb24 rfl (fun w hw => c_impl_MoveMay N _ _ _ _ hx22 w (Lay.at_ hz1 hw) (Lay.at_ hz2 hw) (Lay.at_ hz3 hw)) rfl rfl (kk_wl ?_))
    refine wl_u rfl (ow_y (yh_assign rfl rfl) rfl rfl (kk_wl ?_))
    refine wl_nil ?_
    refine ex_seq ?_
    refine cw_seq ?_
    refine cw_region ?_
    refine wl_u rfl (ow_y (yh_loadBA Tb (k := 2) rfl rfl rfl rfl rfl rfl) rfl rfl (kk_wl ?_))
    refine wl_u rfl (ow_y (yh_loadBA Tb (k := 1) rfl rfl rfl rfl rfl rfl) rfl rfl (kk_wl ?_))
    refine wl_u rfl (ow_y (yh_loadBA Tb (k := 0) rfl rfl rfl rfl rfl rfl) rfl rfl (kk_wl ?_))
    obtain ⟨x26, hx26, h⟩ := bd h
    refine wl_u rfl (ow_cV rfl hb25 rfl (fun w hw => c_spec_MoveMay N _ _ _ _ hx26 w (Lay.at_ hz1 hw) (Lay.at_ hz2 hw) (Lay.at_ hz3 hw)) rfl rfl (kk_wl ?_))
    refine wl_u rfl (ow_y (yh_assign rfl rfl) rfl rfl (kk_wl ?_))
    refine wl_nil ?_
    refine ex_seq ?_
    refine cw_seq ?_
    refine cw_seq ?_
    refine cw_region ?_
    refine wl_u rfl (ow_y (yh_move rfl rfl) rfl rfl (kk_wl ?_))
    refine wl_u rfl (ow_y (yh_move rfl rfl) rfl rfl (kk_wl ?_))
    refine wl_u rfl (ow_y (yh_cmpB rfl rfl rfl rfl (by kernel_rfl)) rfl rfl (kk_wl ?_))
    refine wl_u rfl (ow_y (yh_move rfl rfl) rfl rfl (kk_wl ?_))
    refine wl_s rfl rfl (fun c2 => ?_) (fun c2 => ?_)
    · skip
      replace h := bt c2 h
      refine wl_n rfl rfl rfl rfl ?_
      refine wl_n rfl rfl rfl rfl ?_
      refine wl_n rfl rfl rfl rfl ?_
      refine wl_n rfl rfl rfl rfl ?_
      refine wl_u rfl (ow_y (yh_pickT rfl rfl rfl) rfl rfl (kk_wl ?_))
      refine wl_u rfl (ow_y (yh_move rfl rfl) rfl rfl (kk_wl ?_))
      refine wl_s rfl rfl (fun _ => ?_) nofun
      refine wl_n rfl rfl rfl rfl ?_
      refine wl_u rfl (ow_y (yh_pickT rfl rfl rfl) rfl rfl (kk_wl ?_))
      refine wl_u rfl (ow_y (yh_move rfl rfl) rfl rfl (kk_wl ?_))
      refine wl_s rfl rfl (fun _ => ?_) nofun
      refine wl_n rfl rfl rfl rfl ?_
      refine wl_n rfl rfl rfl rfl ?_
      refine wl_n rfl rfl rfl rfl ?_
      refine wl_u rfl (ow_y (yh_pickT rfl rfl rfl) rfl rfl (kk_wl ?_))
      refine wl_u rfl (ow_y (yh_move rfl rfl) rfl rfl (kk_wl ?_))
      refine wl_s rfl rfl (fun _ => ?_) nofun
      refine wl_n rfl rfl rfl rfl ?_
      refine wl_n rfl rfl rfl rfl ?_
      refine wl_n rfl rfl rfl rfl ?_
      refine wl_u rfl (ow_y (yh_pickT rfl rfl rfl) rfl rfl (kk_wl ?_))
      refine wl_nil ?_
      refine ex_seq ?_
      refine cw_true rfl ?_
      refine cw_seq ?_
      refine cw_region ?_
      refine wl_u rfl (ow_y (yh_move rfl rfl) rfl rfl (kk_wl ?_))
      refine wl_u rfl (ow_y (yh_move rfl rfl) rfl rfl (kk_wl ?_))
      refine wl_u rfl (ow_y (yh_cmpB rfl rfl rfl rfl (by kernel_rfl)) rfl rfl (kk_wl ?_))
      refine wl_u rfl (ow_y (yh_assign rfl rfl) rfl rfl (kk_wl ?_))
      refine wl_nil ?_
      refine ex_seq ?_
      refine cw_ret ?_
      refine ex_then_ret ?_
      obtain rfl := Option.some.inj h
      exact ex_r1 Tb rfl (.tmp rfl) (fun wq hq => ⟨_, rfl, (hB3.back hq).ext, rfl⟩)
    · skip
      replace h := bf c2 h
      refine wl_g rfl rfl (ow_y (yh_loadBA Tb (k := 2) rfl rfl rfl rfl rfl rfl) rfl rfl (kk_wl ?_))
      refine wl_g rfl rfl (ow_y (yh_loadBA Tb (k := 0) rfl rfl rfl rfl rfl rfl) rfl rfl (kk_wl ?_))
      obtain ⟨x33, hx33, h⟩ := bd h
      refine wl_g rfl rfl (ow_cV rfl hb26 rfl (fun w hw => c_spec_RunValid N _ _ _ hx33 w (Lay.at_ hz1 hw) (Lay.at_ hz3 hw)) rfl rfl (kk_wl ?_))
      refine wl_g rfl rfl (ow_y (yh_not rfl rfl) rfl rfl (kk_wl ?_))
      refine wl_u rfl (ow_y (yh_pickF rfl rfl rfl) rfl rfl (kk_wl ?_))
      refine wl_u rfl (ow_y (yh_move rfl rfl) rfl rfl (kk_wl ?_))
      refine wl_s rfl rfl (fun c3 => ?_) (fun c3 => ?_)
      · skip
        replace h := bt c3 h
        refine wl_n rfl rfl rfl rfl ?_
        refine wl_u rfl (ow_y (yh_pickT rfl rfl rfl) rfl rfl (kk_wl ?_))
        refine wl_u rfl (ow_y (yh_move rfl rfl) rfl rfl (kk_wl ?_))
        refine wl_s rfl rfl (fun _ => ?_) nofun
        refine wl_n rfl rfl rfl rfl ?_
        refine wl_n rfl rfl rfl rfl ?_
        refine wl_n rfl rfl rfl rfl ?_
        refine wl_u rfl (ow_y (yh_pickT rfl rfl rfl) rfl rfl (kk_wl ?_))
        refine wl_u rfl (ow_y (yh_move rfl rfl) rfl rfl (kk_wl ?_))
        refine wl_s rfl rfl (fun _ => ?_) nofun
        refine wl_n rfl rfl rfl rfl ?_
        refine wl_n rfl rfl rfl rfl ?_
        refine wl_n rfl rfl rfl rfl ?_
        refine wl_u rfl (ow_y (yh_pickT rfl rfl rfl) rfl rfl (kk_wl ?_))
        refine wl_nil ?_
        refine ex_seq ?_
        refine cw_true rfl ?_
        refine cw_seq ?_
        refine cw_region ?_
        refine wl_u rfl (ow_y (yh_move rfl rfl) rfl rfl (kk_wl ?_))
        refine wl_u rfl (ow_y (yh_move rfl rfl) rfl rfl (kk_wl ?_))
        refine wl_u rfl (ow_y (yh_cmpB rfl rfl rfl rfl (by kernel_rfl)) rfl rfl (kk_wl ?_))
        refine wl_u rfl (ow_y (yh_assign rfl rfl) rfl rfl (kk_wl ?_))
        refine wl_nil ?_
        refine ex_seq ?_
        refine cw_ret ?_
        refine ex_then_ret ?_
        obtain rfl := Option.some.inj h
        exact ex_r1 Tb rfl (.tmp rfl) (fun wq hq => ⟨_, rfl, (hB3.back hq).ext, rfl⟩)
      · skip
        replace h := bf c3 h
        refine wl_g rfl rfl (ow_y (yh_move rfl rfl) rfl rfl (kk_wl ?_))
        refine wl_u rfl (ow_y (yh_pickF rfl rfl rfl) rfl rfl (kk_wl ?_))
        refine wl_u rfl (ow_y (yh_move rfl rfl) rfl rfl (kk_wl ?_))
        refine wl_s rfl rfl (fun c4 => ?_) (fun c4 => ?_)
        · skip
          replace h := bt c4 h
          refine wl_n rfl rfl rfl rfl ?_
          refine wl_n rfl rfl rfl rfl ?_
          refine wl_n rfl rfl rfl rfl ?_
          refine wl_u rfl (ow_y (yh_pickT rfl rfl rfl) rfl rfl (kk_wl ?_))
          refine wl_u rfl (ow_y (yh_move rfl rfl) rfl rfl (kk_wl ?_))
          refine wl_s rfl rfl (fun _ => ?_) nofun
          refine wl_n rfl rfl rfl rfl ?_
          refine wl_n rfl rfl rfl rfl ?_
          refine wl_n rfl rfl rfl rfl ?_
          refine wl_u rfl (ow_y (yh_pickT rfl rfl rfl) rfl rfl (kk_wl ?_))
          refine wl_nil ?_
          refine ex_seq ?_
          refine cw_true rfl ?_
          refine cw_seq ?_
          refine cw_region ?_
          refine wl_u rfl (ow_y (yh_move rfl rfl) rfl rfl (kk_wl ?_))
          refine wl_u rfl (ow_y (yh_move rfl rfl) rfl rfl (kk_wl ?_))
          refine wl_u rfl (ow_y (yh_cmpB rfl rfl rfl rfl (by kernel_rfl)) rfl rfl (kk_wl ?_))
          refine wl_u rfl (ow_y (yh_assign rfl rfl) rfl rfl (kk_wl ?_))
          refine wl_nil ?_
          refine ex_seq ?_
          refine cw_ret ?_
          refine ex_then_ret ?_
          obtain rfl := Option.some.inj h
          exact ex_r1 Tb rfl (.tmp rfl) (fun wq hq => ⟨_, rfl, (hB3.back hq).ext, rfl⟩)
        · skip
          replace h := bf c4 h
          refine wl_g rfl rfl (ow_y (yh_field Tb rfl rfl rfl) rfl rfl (kk_wl ?_))
          refine wl_g rfl rfl (ow_y (yh_loadB Tb (k := 0) rfl rfl rfl rfl rfl) rfl rfl (kk_wl ?_))
          refine wl_g rfl rfl (ow_y (yh_cmpI rfl rfl rfl rfl) rfl rfl (kk_wl ?_))
          refine wl_u rfl (ow_y (yh_pickF rfl rfl rfl) rfl rfl (kk_wl ?_))
          refine wl_u rfl (ow_y (yh_move rfl rfl) rfl rfl (kk_wl ?_))
          refine wl_s rfl rfl (fun c5 => ?_) (fun c5 => ?_)
          · skip
            replace h := bt c5 h
            have q3 := eqb_true.1 c5
            refine wl_n rfl rfl rfl rfl ?_
            refine wl_n rfl rfl rfl rfl ?_
            refine wl_n rfl rfl rfl rfl ?_
            refine wl_u rfl (ow_y (yh_pickT rfl rfl rfl) rfl rfl (kk_wl ?_))
            refine wl_nil ?_
            refine ex_seq ?_
            refine cw_true rfl ?_
            refine cw_seq ?_
            refine cw_region ?_
            refine wl_u rfl (ow_y (yh_move rfl rfl) rfl rfl (kk_wl ?_))
            refine wl_u rfl (ow_y (yh_move rfl rfl) rfl rfl (kk_wl ?_))
            refine wl_u rfl (ow_y (yh_cmpB rfl rfl rfl rfl (by kernel_rfl)) rfl rfl (kk_wl ?_))
            refine wl_u rfl (ow_y (yh_assign rfl rfl) rfl rfl (kk_wl ?_))
            refine wl_nil ?_
            refine ex_seq ?_
            refine cw_ret ?_
            refine ex_then_ret ?_
            obtain rfl := Option.some.inj h
            exact ex_r1 Tb rfl (.tmp rfl) (fun wq hq => ⟨_, rfl, (hB3.back hq).ext, rfl⟩)
          · skip
            replace h := bf c5 h
            have q4 := eqb_false.1 c5
            refine wl_g rfl rfl (ow_y (yh_field Tb rfl rfl rfl) rfl rfl (kk_wl ?_))
            refine wl_g rfl rfl (ow_y (yh_loadB Tb (k := 0) rfl rfl rfl rfl rfl) rfl rfl (kk_wl ?_))
            refine wl_g rfl rfl (ow_y (yh_cmpI rfl rfl rfl rfl) rfl rfl (kk_wl ?_))
            refine wl_u rfl (ow_y (yh_pickF rfl rfl rfl) rfl rfl (kk_wl ?_))
            refine wl_nil ?_
            refine ex_seq ?_
            refine cw_split rfl (fun c6 => ?_) (fun c6 => ?_)
            · skip
              replace h := bt c6 h
              have q5 := eqb_true.1 c6
              refine cw_seq ?_
              refine cw_region ?_
              refine wl_u rfl (ow_y (yh_move rfl rfl) rfl rfl (kk_wl ?_))
              refine wl_u rfl (ow_y (yh_move rfl rfl) rfl rfl (kk_wl ?_))
              refine wl_u rfl (ow_y (yh_cmpB rfl rfl rfl rfl (by kernel_rfl)) rfl rfl (kk_wl ?_))
              refine wl_u rfl (ow_y (yh_assign rfl rfl) rfl rfl (kk_wl ?_))
              refine wl_nil ?_
              refine ex_seq ?_
              refine cw_ret ?_
              refine ex_then_ret ?_
              obtain rfl := Option.some.inj h
              exact ex_r1 Tb rfl (.tmp rfl) (fun wq hq => ⟨_, rfl, (hB3.back hq).ext, rfl⟩)
            · skip
              replace h := bf c6 h
              have q6 := eqb_false.1 c6
              refine cw_skip ?_
              refine ex_seq ?_
              refine cw_seq ?_
              refine cw_region ?_
              refine wl_u rfl (ow_y (yh_loadBA Tb (k := 2) rfl rfl rfl rfl rfl rfl) rfl rfl (kk_wl ?_))
              refine wl_u rfl (ow_y (yh_loadBA Tb (k := 1) rfl rfl rfl rfl rfl rfl) rfl rfl (kk_wl ?_))
              obtain ⟨x55, hx55, h⟩ := bd h
              refine wl_u rfl (ow_cN1 rfl hb27 rfl (fun w hw => c_impl_FlowChange N _ _ _ hx55 w (Lay.at_ hz1 hw) (Lay.at_ hz2 hw)) rfl rfl (fun a55 c55 F55 => kk_wl ?_))
              refine wl_u rfl (ow_y (yh_move rfl rfl) rfl rfl (kk_wl ?_))
              refine wl_u rfl (ow_y (yh_extract rfl rfl rfl) rfl rfl (kk_wl ?_))
              refine wl_u rfl (ow_y (yh_extract rfl rfl rfl) rfl rfl (kk_wl ?_))
              refine wl_u rfl (ow_allocA Tb rfl rfl rfl rfl (fun g8 => kk_wl ?_))
              refine wl_u rfl (ow_storeA Tb (k := 0) rfl rfl rfl rfl rfl rfl rfl rfl rfl (kk_wl ?_))
              refine wl_u rfl (ow_y (yh_assign rfl rfl) rfl rfl (kk_wl ?_))
              refine wl_nil ?_
              refine ex_seq ?_
              refine cw_seq ?_
              refine cw_freeze 1 rfl (fun w4 M4 hb4_ hz4 => ?_)
              replace h_u0 := Lay.rb h_u0 hb4_
              replace hz1 := Lay.rb hz1 hb4_
              replace hz2 := Lay.rb hz2 hb4_
              replace hz3 := Lay.rb hz3 hb4_
              have hB4 := hB3.trans hb4_
              have mz4 := rd_max hz4
              refine cw_region ?_
              refine wl_u rfl (ow_y (yh_move rfl rfl) rfl rfl (kk_wl ?_))
              refine wl_u rfl (ow_y (yh_not rfl rfl) rfl rfl (kk_wl ?_))
              refine wl_u rfl (ow_y (yh_move rfl rfl) rfl rfl (kk_wl ?_))
              refine wl_s rfl rfl (fun c7 => ?_) (fun c7 => ?_)
              · skip
                replace h := bt c7 h
                refine wl_n rfl rfl rfl rfl ?_
                refine wl_n rfl rfl rfl rfl ?_
                refine wl_n rfl rfl rfl rfl ?_
                refine wl_n rfl rfl rfl rfl ?_
                refine wl_n rfl rfl rfl rfl ?_
                refine wl_n rfl rfl rfl rfl ?_
                refine wl_n rfl rfl rfl rfl ?_
                refine wl_n rfl rfl rfl rfl ?_
                refine wl_n rfl rfl rfl rfl ?_
                refine wl_n rfl rfl rfl rfl ?_
                refine wl_n rfl rfl rfl rfl ?_
                refine wl_n rfl rfl rfl rfl ?_
                refine wl_n rfl rfl rfl rfl ?_
                refine wl_n rfl rfl rfl rfl ?_
                refine wl_n rfl rfl rfl rfl ?_
                refine wl_n rfl rfl rfl rfl ?_
                refine wl_n rfl rfl rfl rfl ?_
                refine wl_u rfl (ow_y (yh_pickT rfl rfl rfl) rfl rfl (kk_wl ?_))
                refine wl_u rfl (ow_y (yh_assign rfl rfl) rfl rfl (kk_wl ?_))
                refine wl_nil ?_
                refine ex_seq ?_
                refine cw_ret ?_
                obtain rfl := Option.some.inj h
                exact ex_r1 Tb rfl (.tmp rfl) (fun wq hq => ⟨_, rfl, (hB4.back hq).ext, rfl⟩)
              · skip
                replace h := bf c7 h
                refine wl_g rfl rfl (ow_y (yh_field Tb rfl rfl rfl) rfl rfl (kk_wl ?_))
                refine wl_g rfl rfl (ow_y (yh_loadB Tb (k := 2) rfl rfl rfl rfl rfl) rfl rfl (kk_wl ?_))
                refine wl_g rfl rfl (ow_y (yh_cmpI rfl rfl rfl rfl) rfl rfl (kk_wl ?_))
                refine wl_g rfl rfl (ow_y (yh_move rfl rfl) rfl rfl (kk_wl ?_))
                refine wl_s rfl rfl (fun c8 => ?_) (fun c8 => ?_)
                · skip
                  replace h := bt c8 h
                  have q7 := eqb_true.1 c8
                  refine wl_n rfl rfl rfl rfl ?_
                  refine wl_n rfl rfl rfl rfl ?_
                  refine wl_n rfl rfl rfl rfl ?_
                  refine wl_g rfl rfl (ow_y (yh_pickT rfl rfl rfl) rfl rfl (kk_wl ?_))
                  refine wl_g rfl rfl (ow_y (yh_move rfl rfl) rfl rfl (kk_wl ?_))
                  refine wl_s rfl rfl (fun _ => ?_) nofun
                  refine wl_g rfl rfl (ow_y (yh_field Tb rfl rfl rfl) rfl rfl (kk_wl ?_))
                  refine wl_g rfl rfl (ow_y (yh_loadB Tb (k := 1) rfl rfl rfl rfl rfl) rfl rfl (kk_wl ?_))
                  refine wl_g rfl rfl (ow_y (yh_field Tb rfl rfl rfl) rfl rfl (kk_wl ?_))
                  refine wl_g rfl rfl (ow_y (yh_field Tb rfl rfl rfl) rfl rfl (kk_wl ?_))
                  refine wl_g rfl rfl (ow_y (yh_loadB Tb (k := 2) rfl rfl rfl rfl rfl) rfl rfl (kk_wl ?_))
                  obtain ⟨x75, hx75, h⟩ := bd h
                  refine wl_g rfl rfl (ow_cV rfl hb28 rfl (fun w hw => c_laws_placeOf N _ _ _ hx75 w (Lay.at_ hz3 hw)) rfl rfl (kk_wl ?_))
                  refine wl_g rfl rfl (ow_y (yh_cmpI rfl rfl rfl rfl) rfl rfl (kk_wl ?_))
                  refine wl_g rfl rfl (ow_y (yh_pickT rfl rfl rfl) rfl rfl (kk_wl ?_))
                  refine wl_u rfl (ow_y (yh_pickF rfl rfl rfl) rfl rfl (kk_wl ?_))
                  refine wl_u rfl (ow_y (yh_assign rfl rfl) rfl rfl (kk_wl ?_))
                  refine wl_nil ?_
                  refine ex_seq ?_
                  refine cw_ret ?_
                  obtain rfl := Option.some.inj h
                  exact ex_r1 Tb rfl (.tmp rfl) (fun wq hq => ⟨_, rfl, (hB4.back hq).ext, rfl⟩)
                · skip
                  replace h := bf c8 h
                  have q8 := eqb_false.1 c8
                  refine wl_g rfl rfl (ow_y (yh_field Tb rfl rfl rfl) rfl rfl (kk_wl ?_))
                  refine wl_g rfl rfl (ow_y (yh_loadB Tb (k := 2) rfl rfl rfl rfl rfl) rfl rfl (kk_wl ?_))
                  refine wl_g rfl rfl (ow_y (yh_cmpI rfl rfl rfl rfl) rfl rfl (kk_wl ?_))
                  refine wl_g rfl rfl (ow_y (yh_pickF rfl rfl rfl) rfl rfl (kk_wl ?_))
                  refine wl_g rfl rfl (ow_y (yh_move rfl rfl) rfl rfl (kk_wl ?_))
                  refine wl_s rfl rfl (fun c9 => ?_) (fun c9 => ?_)
                  · skip
                    replace h := bt c9 h
                    have q9 := eqb_true.1 c9
                    refine wl_g rfl rfl (ow_y (yh_field Tb rfl rfl rfl) rfl rfl (kk_wl ?_))
                    refine wl_g rfl rfl (ow_y (yh_loadB Tb (k := 1) rfl rfl rfl rfl rfl) rfl rfl (kk_wl ?_))
                    refine wl_g rfl rfl (ow_y (yh_field Tb rfl rfl rfl) rfl rfl (kk_wl ?_))
                    refine wl_g rfl rfl (ow_y (yh_field Tb rfl rfl rfl) rfl rfl (kk_wl ?_))
                    refine wl_g rfl rfl (ow_y (yh_loadB Tb (k := 2) rfl rfl rfl rfl rfl) rfl rfl (kk_wl ?_))
                    obtain ⟨x75, hx75, h⟩ := bd h
                    refine wl_g rfl rfl (ow_cV rfl hb28 rfl (fun w hw => c_laws_placeOf N _ _ _ hx75 w (Lay.at_ hz3 hw)) rfl rfl (kk_wl ?_))
                    refine wl_g rfl rfl (ow_y (yh_cmpI rfl rfl rfl rfl) rfl rfl (kk_wl ?_))
                    refine wl_g rfl rfl (ow_y (yh_pickT rfl rfl rfl) rfl rfl (kk_wl ?_))
                    refine wl_u rfl (ow_y (yh_pickF rfl rfl rfl) rfl rfl (kk_wl ?_))
                    refine wl_u rfl (ow_y (yh_assign rfl rfl) rfl rfl (kk_wl ?_))
                    refine wl_nil ?_
                    refine ex_seq ?_
                    refine cw_ret ?_
                    obtain rfl := Option.some.inj h
                    exact ex_r1 Tb rfl (.tmp rfl) (fun wq hq => ⟨_, rfl, (hB4.back hq).ext, rfl⟩)
                  · skip
                    replace h := bf c9 h
                    have q10 := eqb_false.1 c9
                    refine wl_n rfl rfl rfl rfl ?_
                    refine wl_n rfl rfl rfl rfl ?_
                    refine wl_n rfl rfl rfl rfl ?_
                    refine wl_n rfl rfl rfl rfl ?_
                    refine wl_n rfl rfl rfl rfl ?_
                    refine wl_n rfl rfl rfl rfl ?_
                    refine wl_n rfl rfl rfl rfl ?_
                    refine wl_g rfl rfl (ow_y (yh_pickF rfl rfl rfl) rfl rfl (kk_wl ?_))
                    refine wl_u rfl (ow_y (yh_pickF rfl rfl rfl) rfl rfl (kk_wl ?_))
                    refine wl_u rfl (ow_y (yh_assign rfl rfl) rfl rfl (kk_wl ?_))
                    refine wl_nil ?_
                    refine ex_seq ?_
                    refine cw_ret ?_
                    obtain rfl := Option.some.inj h
                    exact ex_r1 Tb rfl (.tmp rfl) (fun wq hq => ⟨_, rfl, (hB4.back hq).ext, rfl⟩)

end Go.Proofs.YtmnhnldnnniglaaGreat
